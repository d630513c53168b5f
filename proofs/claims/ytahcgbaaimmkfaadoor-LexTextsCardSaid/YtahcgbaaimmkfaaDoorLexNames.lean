/- The walk of 'LexNames'. Conditions: what the listed variables hold. -/
import Derived.Test.YtahcgbaaimmkfaaDoorLexA
namespace Go.Proofs.YtahcgbaaimmkfaaDoor
open Go.RowKit
set_option linter.unusedVariables false

theorem str_ne {s : ByteArray} {l : List UInt8} (h : ¬ s.data.toList = l) : (s.toList == l) = false := by
  rw [beq_eq_false_iff_ne, ByteArray.toList_eq]
  exact h
theorem str_ne' {s : ByteArray} {l : List UInt8} (h : ¬ s.data.toList = l) : (s.toList == ByteArray.toList ⟨l.toArray⟩) = false := by
  rw [beq_eq_false_iff_ne, ByteArray.toList_eq, ByteArray.toList_eq]
  exact h
theorem scan_self : scanLex [115, 101, 108, 102] = ⟨[⟨1, 0, 0, [115, 101, 108, 102]⟩], 0, 0⟩ := by kernel_rfl
theorem name_self : nameP [115, 101, 108, 102] = false := by kernel_rfl
set_option maxRecDepth 8000 in
set_option maxHeartbeats 8000000 in
theorem names_self (W : World) (hd : Door W) : Calls Tryd.prog 7 #[.string ⟨#[115, 101, 108, 102]⟩] W fun e w' => e = .returned (.bool true) ∧ Below W.heap.size W w' := by
  have S1 := Lib.hid (scanC W hd [115, 101, 108, 102] (by decide) _ scan_self)
  have M1 := Lib.hid (fun v (hb : Below W.heap.size W v) => nameC v (hd.below hb) [115, 101, 108, 102] (by decide) _ name_self)
  have AW := Lib.hid (fun v (hb : Below W.heap.size W v) => awake_true v (hd.below hb))
  clear hd
  go_enter Tryd.func7, Tryd.ntmps7
  go_wp2_with fail
  refine S1.out.mono ?_
  rintro e w1 ⟨⟨oa, oc, rfl, own⟩, hb1⟩
  have z1 := Lib.hid hb1
  clear hb1 S1
  dsimp only
  obtain ⟨g, e, _, hgl⟩ := OwnR.addr own (by decide)
  subst e
  have c0 : w1.cell? ⟨g, 0, none⟩ = some (.int .i64 1) := OwnR.cell own 0 (by decide)
  have c3 : w1.cell? ⟨g, 3, none⟩ = some (.string ⟨#[115, 101, 108, 102]⟩) := OwnR.cell own 3 (by decide)
  clear own
  go_wp2_with fail
  refine (M1.out w1 z1.out).mono ?_
  rintro e w2 ⟨rfl, hb2⟩
  have z2 := Lib.hid (btrans z1.out hb2)
  clear hb2 M1 c0 c3
  go_wp2_with fail
  refine (AW.out w2 z2.out).mono ?_
  rintro e w3 ⟨rfl, hb3⟩
  go_wp2
  go_ret
  exact ⟨rfl, btrans z2.out hb3⟩
theorem scan_none : scanLex [110, 111, 110, 101] = ⟨[⟨1, 0, 0, [110, 111, 110, 101]⟩], 0, 0⟩ := by kernel_rfl
theorem name_none : nameP [110, 111, 110, 101] = false := by kernel_rfl
set_option maxRecDepth 8000 in
set_option maxHeartbeats 8000000 in
theorem names_none (W : World) (hd : Door W) : Calls Tryd.prog 7 #[.string ⟨#[110, 111, 110, 101]⟩] W fun e w' => e = .returned (.bool true) ∧ Below W.heap.size W w' := by
  have S1 := Lib.hid (scanC W hd [110, 111, 110, 101] (by decide) _ scan_none)
  have M1 := Lib.hid (fun v (hb : Below W.heap.size W v) => nameC v (hd.below hb) [110, 111, 110, 101] (by decide) _ name_none)
  have AW := Lib.hid (fun v (hb : Below W.heap.size W v) => awake_true v (hd.below hb))
  clear hd
  go_enter Tryd.func7, Tryd.ntmps7
  go_wp2_with fail
  refine S1.out.mono ?_
  rintro e w1 ⟨⟨oa, oc, rfl, own⟩, hb1⟩
  have z1 := Lib.hid hb1
  clear hb1 S1
  dsimp only
  obtain ⟨g, e, _, hgl⟩ := OwnR.addr own (by decide)
  subst e
  have c0 : w1.cell? ⟨g, 0, none⟩ = some (.int .i64 1) := OwnR.cell own 0 (by decide)
  have c3 : w1.cell? ⟨g, 3, none⟩ = some (.string ⟨#[110, 111, 110, 101]⟩) := OwnR.cell own 3 (by decide)
  clear own
  go_wp2_with fail
  refine (M1.out w1 z1.out).mono ?_
  rintro e w2 ⟨rfl, hb2⟩
  have z2 := Lib.hid (btrans z1.out hb2)
  clear hb2 M1 c0 c3
  go_wp2_with fail
  refine (AW.out w2 z2.out).mono ?_
  rintro e w3 ⟨rfl, hb3⟩
  go_wp2
  go_ret
  exact ⟨rfl, btrans z2.out hb3⟩
theorem scan_len : scanLex [108, 101, 110] = ⟨[⟨1, 0, 0, [108, 101, 110]⟩], 0, 0⟩ := by kernel_rfl
theorem name_len : nameP [108, 101, 110] = false := by kernel_rfl
set_option maxRecDepth 8000 in
set_option maxHeartbeats 8000000 in
theorem names_len (W : World) (hd : Door W) : Calls Tryd.prog 7 #[.string ⟨#[108, 101, 110]⟩] W fun e w' => e = .returned (.bool true) ∧ Below W.heap.size W w' := by
  have S1 := Lib.hid (scanC W hd [108, 101, 110] (by decide) _ scan_len)
  have M1 := Lib.hid (fun v (hb : Below W.heap.size W v) => nameC v (hd.below hb) [108, 101, 110] (by decide) _ name_len)
  have AW := Lib.hid (fun v (hb : Below W.heap.size W v) => awake_true v (hd.below hb))
  clear hd
  go_enter Tryd.func7, Tryd.ntmps7
  go_wp2_with fail
  refine S1.out.mono ?_
  rintro e w1 ⟨⟨oa, oc, rfl, own⟩, hb1⟩
  have z1 := Lib.hid hb1
  clear hb1 S1
  dsimp only
  obtain ⟨g, e, _, hgl⟩ := OwnR.addr own (by decide)
  subst e
  have c0 : w1.cell? ⟨g, 0, none⟩ = some (.int .i64 1) := OwnR.cell own 0 (by decide)
  have c3 : w1.cell? ⟨g, 3, none⟩ = some (.string ⟨#[108, 101, 110]⟩) := OwnR.cell own 3 (by decide)
  clear own
  go_wp2_with fail
  refine (M1.out w1 z1.out).mono ?_
  rintro e w2 ⟨rfl, hb2⟩
  have z2 := Lib.hid (btrans z1.out hb2)
  clear hb2 M1 c0 c3
  go_wp2_with fail
  refine (AW.out w2 z2.out).mono ?_
  rintro e w3 ⟨rfl, hb3⟩
  go_wp2
  go_ret
  exact ⟨rfl, btrans z2.out hb3⟩
theorem scan_at : scanLex [97, 116] = ⟨[⟨1, 0, 0, [97, 116]⟩], 0, 0⟩ := by kernel_rfl
theorem name_at : nameP [97, 116] = false := by kernel_rfl
set_option maxRecDepth 8000 in
set_option maxHeartbeats 8000000 in
theorem names_at (W : World) (hd : Door W) : Calls Tryd.prog 7 #[.string ⟨#[97, 116]⟩] W fun e w' => e = .returned (.bool true) ∧ Below W.heap.size W w' := by
  have S1 := Lib.hid (scanC W hd [97, 116] (by decide) _ scan_at)
  have M1 := Lib.hid (fun v (hb : Below W.heap.size W v) => nameC v (hd.below hb) [97, 116] (by decide) _ name_at)
  have AW := Lib.hid (fun v (hb : Below W.heap.size W v) => awake_true v (hd.below hb))
  clear hd
  go_enter Tryd.func7, Tryd.ntmps7
  go_wp2_with fail
  refine S1.out.mono ?_
  rintro e w1 ⟨⟨oa, oc, rfl, own⟩, hb1⟩
  have z1 := Lib.hid hb1
  clear hb1 S1
  dsimp only
  obtain ⟨g, e, _, hgl⟩ := OwnR.addr own (by decide)
  subst e
  have c0 : w1.cell? ⟨g, 0, none⟩ = some (.int .i64 1) := OwnR.cell own 0 (by decide)
  have c3 : w1.cell? ⟨g, 3, none⟩ = some (.string ⟨#[97, 116]⟩) := OwnR.cell own 3 (by decide)
  clear own
  go_wp2_with fail
  refine (M1.out w1 z1.out).mono ?_
  rintro e w2 ⟨rfl, hb2⟩
  have z2 := Lib.hid (btrans z1.out hb2)
  clear hb2 M1 c0 c3
  go_wp2_with fail
  refine (AW.out w2 z2.out).mono ?_
  rintro e w3 ⟨rfl, hb3⟩
  go_wp2
  go_ret
  exact ⟨rfl, btrans z2.out hb3⟩
set_option maxRecDepth 8000 in
set_option maxHeartbeats 8000000 in
theorem lexNames_walk (W : World) (hd : Door W) (s : ByteArray) (hsz : s.size ≤ reachBytes) : Calls Tryd.prog 7 #[.string s] W fun e w' => e = .returned (.bool true) ∧ Below W.heap.size W w' := by
  clear hsz
  by_cases h_self : s.data.toList = [115, 101, 108, 102]
  · have : s = ⟨#[115, 101, 108, 102]⟩ := take_eta h_self
    subst this
    exact names_self W hd
  by_cases h_none : s.data.toList = [110, 111, 110, 101]
  · have : s = ⟨#[110, 111, 110, 101]⟩ := take_eta h_none
    subst this
    exact names_none W hd
  by_cases h_len : s.data.toList = [108, 101, 110]
  · have : s = ⟨#[108, 101, 110]⟩ := take_eta h_len
    subst this
    exact names_len W hd
  by_cases h_at : s.data.toList = [97, 116]
  · have : s = ⟨#[97, 116]⟩ := take_eta h_at
    subst this
    exact names_at W hd
  have hnot : ¬ s.data.toList ∈ ownW := by
    intro h
    simp only [ownW, List.mem_cons, List.not_mem_nil, or_false] at h
    rcases h with h | h | h | h
    · exact h_self h
    · exact h_none h
    · exact h_len h
    · exact h_at h
  have b_self := str_ne h_self
  have d_self := str_ne' h_self
  have b_none := str_ne h_none
  have d_none := str_ne' h_none
  have b_len := str_ne h_len
  have d_len := str_ne' h_len
  have b_at := str_ne h_at
  have d_at := str_ne' h_at
  have AW := Lib.hid (fun v (hb : Below W.heap.size W v) => awake_true v (hd.below hb))
  by_cases hl : s.size ≤ 300
  · have hlI : ¬ (300 : Int) < (s.size : Int) := by omega
    have S1 := Lib.hid (scan_any W hd s (by omega))
    have M1 := Lib.hid (fun v (hb : Below W.heap.size W v) => name_any v (hd.below hb) s (by omega))
    have LN := lex_names s.data.toList
    obtain ⟨L, hL⟩ : ∃ L, L = s.data.toList := ⟨_, rfl⟩
    rw [← hL] at S1 M1 LN hnot
    unfold oneW at LN
    generalize nameP L = nm at M1 LN
    generalize scanLex L = r at S1 LN
    obtain ⟨T, at_, e⟩ := r
    dsimp only at LN
    have hT := fun h => hnot h
    clear hd hl hnot h_self h_none h_len h_at
    replace hL := Lib.hid hL
    by_cases he : e = 0
    · subst he
      match T with
      | [] =>
        have hn : nm = false := by cases nm with
          | false => rfl
          | true => obtain ⟨⟨_, t, h, _⟩, _⟩ := LN.1 rfl; cases h
        subst hn
        clear LN hT
        go_enter Tryd.func7, Tryd.ntmps7
        go_wp2_with fail
        refine S1.out.mono ?_
        rintro e9 w1 ⟨⟨oa, oc, rfl, own⟩, hb1⟩
        have z1 := Lib.hid hb1
        clear hb1 S1
        dsimp only
        clear own
        go_wp2_with fail
        refine (M1.out w1 z1.out).mono ?_
        rintro e9 w2 ⟨rfl, hb2⟩
        have z2 := Lib.hid (btrans z1.out hb2)
        clear hb2 M1
        go_wp2_with fail
        refine (AW.out w2 z2.out).mono ?_
        rintro e9 w3 ⟨rfl, hb3⟩
        go_wp2
        go_ret
        exact ⟨rfl, btrans z2.out hb3⟩
      | t :: u :: T =>
        have hn : nm = false := by cases nm with
          | false => rfl
          | true => obtain ⟨⟨_, t, h, _⟩, _⟩ := LN.1 rfl; cases h
        subst hn
        clear LN hT
        have hlb : (((t :: u :: T).length : Int) == 1) = false := by rw [beq_eq_false_iff_ne]; simp only [List.length_cons]; omega
        generalize (t :: u :: T) = TT at S1 hlb
        go_enter Tryd.func7, Tryd.ntmps7
        go_wp2_with fail
        refine S1.out.mono ?_
        rintro e9 w1 ⟨⟨oa, oc, rfl, own⟩, hb1⟩
        have z1 := Lib.hid hb1
        clear hb1 S1
        dsimp only
        clear own
        go_wp2_with fail
        refine (M1.out w1 z1.out).mono ?_
        rintro e9 w2 ⟨rfl, hb2⟩
        have z2 := Lib.hid (btrans z1.out hb2)
        clear hb2 M1
        go_wp2_with fail
        refine (AW.out w2 z2.out).mono ?_
        rintro e9 w3 ⟨rfl, hb3⟩
        go_wp2
        go_ret
        exact ⟨rfl, btrans z2.out hb3⟩
      | [t] =>
        obtain ⟨k, n, a, x⟩ := t
        by_cases hk : k = 1
        · subst hk
          by_cases hx : x = L
          · have hn : nm = true := LN.2 ⟨⟨rfl, _, rfl, rfl, hx⟩, hT⟩
            subst hn
            have hxs : (⟨x.toArray⟩ : ByteArray) = s := by rw [hx, hL.out]
            clear LN hT
            go_enter Tryd.func7, Tryd.ntmps7
            go_wp2_with fail
            refine S1.out.mono ?_
            rintro e9 w1 ⟨⟨oa, oc, rfl, own⟩, hb1⟩
            have z1 := Lib.hid hb1
            clear hb1 S1
            dsimp only
            obtain ⟨g, e9, _, hgl⟩ := OwnR.addr own (by simp)
            subst e9
            have c0 : w1.cell? ⟨g, 0, none⟩ = some (.int .i64 1) := OwnR.cell own 0 (by simp)
            have c3 : w1.cell? ⟨g, 3, none⟩ = some (.string s) := (OwnR.cell own 3 (by simp)).trans (by first | (rw [← hxs]; done) | (rw [← hxs]; rfl))
            clear own
            go_wp2_with fail
            refine (M1.out w1 z1.out).mono ?_
            rintro e9 w2 ⟨rfl, hb2⟩
            have z2 := Lib.hid (btrans z1.out hb2)
            clear hb2 M1 c0 c3
            go_wp2_with fail
            refine (AW.out w2 z2.out).mono ?_
            rintro e9 w3 ⟨rfl, hb3⟩
            go_wp2
            go_ret
            exact ⟨rfl, btrans z2.out hb3⟩
          · have hn : nm = false := by cases nm with
              | false => rfl
              | true => obtain ⟨⟨_, t, h, _, h2⟩, _⟩ := LN.1 rfl; cases h; exact absurd h2 hx
            subst hn
            obtain ⟨xb, hxb⟩ : ∃ xb : ByteArray, xb = ⟨x.toArray⟩ := ⟨_, rfl⟩
            have hxq := str_no (u := xb) (s := s) (fun e => hx (by rw [hL.out, ← e, hxb]))
            clear LN hT hx
            go_enter Tryd.func7, Tryd.ntmps7
            go_wp2_with fail
            refine S1.out.mono ?_
            rintro e9 w1 ⟨⟨oa, oc, rfl, own⟩, hb1⟩
            have z1 := Lib.hid hb1
            clear hb1 S1
            dsimp only
            obtain ⟨g, e9, _, hgl⟩ := OwnR.addr own (by simp)
            subst e9
            have c0 : w1.cell? ⟨g, 0, none⟩ = some (.int .i64 1) := OwnR.cell own 0 (by simp)
            have c3 : w1.cell? ⟨g, 3, none⟩ = some (.string xb) := (OwnR.cell own 3 (by simp)).trans (by first | (rw [hxb]; done) | (rw [hxb]; rfl))
            clear own
            replace hxb := Lib.hid hxb
            go_wp2_with fail
            refine (M1.out w1 z1.out).mono ?_
            rintro e9 w2 ⟨rfl, hb2⟩
            have z2 := Lib.hid (btrans z1.out hb2)
            clear hb2 M1 c0 c3
            go_wp2_with fail
            refine (AW.out w2 z2.out).mono ?_
            rintro e9 w3 ⟨rfl, hb3⟩
            go_wp2
            go_ret
            exact ⟨rfl, btrans z2.out hb3⟩
        · have hn : nm = false := by cases nm with
            | false => rfl
            | true => obtain ⟨⟨_, t, h, h2, _⟩, _⟩ := LN.1 rfl; cases h; exact absurd h2 hk
          subst hn
          have hkb : ((k : Int) == 1) = false := by rw [beq_eq_false_iff_ne]; omega
          clear LN hT
          go_enter Tryd.func7, Tryd.ntmps7
          go_wp2_with fail
          refine S1.out.mono ?_
          rintro e9 w1 ⟨⟨oa, oc, rfl, own⟩, hb1⟩
          have z1 := Lib.hid hb1
          clear hb1 S1
          dsimp only
          obtain ⟨g, e9, _, hgl⟩ := OwnR.addr own (by simp)
          subst e9
          have c0 : w1.cell? ⟨g, 0, none⟩ = some (.int .i64 (k : Int)) := OwnR.cell own 0 (by simp)
          have c3 : w1.cell? ⟨g, 3, none⟩ = some (.string ⟨x.toArray⟩) := (OwnR.cell own 3 (by simp)).trans (by rfl)
          clear own
          go_wp2_with fail
          refine (M1.out w1 z1.out).mono ?_
          rintro e9 w2 ⟨rfl, hb2⟩
          have z2 := Lib.hid (btrans z1.out hb2)
          clear hb2 M1 c0 c3
          go_wp2_with fail
          refine (AW.out w2 z2.out).mono ?_
          rintro e9 w3 ⟨rfl, hb3⟩
          go_wp2
          go_ret
          exact ⟨rfl, btrans z2.out hb3⟩
    · have hn : nm = false := by cases nm with
        | false => rfl
        | true => exact absurd (LN.1 rfl).1.1 he
      subst hn
      have heb : ((e : Int) == 0) = false := by rw [beq_eq_false_iff_ne]; omega
      clear LN hT he
      go_enter Tryd.func7, Tryd.ntmps7
      go_wp2_with fail
      refine S1.out.mono ?_
      rintro e9 w1 ⟨⟨oa, oc, rfl, own⟩, hb1⟩
      have z1 := Lib.hid hb1
      clear hb1 S1
      dsimp only
      clear own
      go_wp2_with fail
      refine (M1.out w1 z1.out).mono ?_
      rintro e9 w2 ⟨rfl, hb2⟩
      have z2 := Lib.hid (btrans z1.out hb2)
      clear hb2 M1
      go_wp2_with fail
      refine (AW.out w2 z2.out).mono ?_
      rintro e9 w3 ⟨rfl, hb3⟩
      go_wp2
      go_ret
      exact ⟨rfl, btrans z2.out hb3⟩
  · have hlI : (300 : Int) < (s.size : Int) := by omega
    clear hd hl hnot h_self h_none h_len h_at
    go_enter Tryd.func7, Tryd.ntmps7
    go_wp2_with fail
    refine (AW.out W (Below.refl _ _)).mono ?_
    rintro e w1 ⟨rfl, hb1⟩
    go_wp2
    go_ret
    exact ⟨rfl, hb1⟩
end Go.Proofs.YtahcgbaaimmkfaaDoor
