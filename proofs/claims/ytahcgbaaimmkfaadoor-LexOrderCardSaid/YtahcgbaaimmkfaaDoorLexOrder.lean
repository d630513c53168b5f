/- The walk of 'LexOrder'. Conditions: what the listed variables hold. -/
import Derived.Test.YtahcgbaaimmkfaaDoorLexA
import Derived.Deep.CutBlock
namespace Go.Proofs.YtahcgbaaimmkfaaDoor
open Go.RowKit
set_option linter.unusedVariables false

theorem mid_str (s : ByteArray) (a b : Nat) : (s.extract a b).data.toList = (s.data.toList.drop a).take (b - a) := by
  rw [ByteArray.data_extract, Array.toList_extract, List.extract_eq_take_drop]
set_option maxRecDepth 8000 in
set_option maxHeartbeats 8000000 in
theorem lexOrder_walk (W : World) (hd : Door W) (s : ByteArray) (hsz : s.size ≤ reachBytes) : Calls Tryd.prog 6 #[.string s] W fun e w' => e = .returned (.bool true) ∧ Below W.heap.size W w' := by
  clear hsz
  have AW := Lib.hid (fun v (hb : Below W.heap.size W v) => awake_true v (hd.below hb))
  by_cases hl : s.size ≤ 3000
  · have hlI : (s.size : Int) ≤ 3000 := by omega
    have S1 := Lib.hid (scan_any W hd s (by omega))
    have SX := Lib.hid (fun v (hb : Below W.heap.size W v) a b (h : skipL ((s.data.toList.drop a).take (b - a)) = ((s.data.toList.drop a).take (b - a)).length) => by
      have h1 := scan_any v (hd.below hb) (s.extract a b) (by rw [ByteArray.size_extract]; omega)
      rw [mid_str, scan_blank h (by rw [List.length_take, List.length_drop, Array.length_toList]; have : s.data.size = s.size := rfl; omega)] at h1
      exact h1)
    have OR := fun h => lex_order s.data.toList h
    obtain ⟨L, hL⟩ : ∃ L, L = s.data.toList := ⟨_, rfl⟩
    have hLn : s.size = L.length := by rw [hL, Array.length_toList]; rfl
    rw [← hL] at S1 SX OR
    have TL : (scanLex L).toks.length ≤ L.length := by
      unfold scanLex
      split
      · exact Nat.zero_le _
      · exact (scan_sum L _ _ [] (skipG_le _ _) (Nat.zero_le _) (Nat.zero_le _)).2
    generalize scanLex L = r at S1 OR TL
    obtain ⟨T, at_, e⟩ := r
    dsimp only at OR TL
    clear hd hl
    replace hL := Lib.hid hL
    replace hLn := Lib.hid hLn
    replace TL := Lib.hid TL
    by_cases he : e = 0
    · subst he
      have ord := Lib.hid (OR rfl)
      clear OR
      go_enter Tryd.func6, Tryd.ntmps6
      go_wp2_with fail
      refine S1.out.mono ?_
      rintro e9 w1 ⟨⟨oa, oc, rfl, own⟩, hb1⟩
      have z1 := Lib.hid hb1
      clear hb1 S1
      dsimp only at own ⊢
      rw [show ((0 : Nat) : Int) = 0 from rfl]
      have TA := Lib.hid (fun v (hb : Below w1.heap.size w1 v) => (TokAt.of_own own).below hb)
      have hb0 : Hid (Below w1.heap.size w1 w1) := Below.refl _ _
      obtain ⟨nt, hnt⟩ : ∃ nt, nt = T.length := ⟨_, rfl⟩
      rw [← hnt]
      have hntI : (nt : Int) ≤ 3000 := by have := TL.out; have := hLn.out; omega
      clear own
      replace hnt := Lib.hid hnt
      go_wp2
      go_loopw [2, 6, 7] (fun rv ev iv wr => ∃ (i en : Nat), rv = .bool false ∧ ev = .int .i64 (en : Int) ∧ iv = .int .i64 (i : Int) ∧ i ≤ nt ∧ en ≤ s.size ∧ Hid (OrdT L en (T.drop i)) ∧ Hid (Below w1.heap.size w1 wr)) (fun _ _ iv _ => nt - (intOf iv).toNat)
      case atStart => exact ⟨0, 0, rfl, rfl, rfl, Nat.zero_le _, Nat.zero_le _, by rw [List.drop_zero]; exact ord, hb0⟩
      case round =>
        obtain ⟨i, en, rfl, rfl, rfl, hi, hen, od, zr⟩ := hrel
        clear ord hb0
        by_cases hil : i < nt
        · have hilI : (i : Int) < (nt : Int) := by omega
          have hiT : i < T.length := by have := hnt.out; omega
          obtain ⟨b, o, ea, hbl, hcell⟩ := (TA.out wr zr.out) (by omega)
          have SG := hcell i hiT
          have od2 := od.out
          rw [List.drop_eq_getElem_cons hiT] at od2
          generalize T[i] = t at SG od2
          obtain ⟨tk, tn, a, tx⟩ := t
          obtain ⟨h1, h2, h3, h4, h5, h6⟩ := od2
          dsimp only at SG h1 h2 h3 h4 h5 h6
          obtain ⟨len, hlen⟩ : ∃ len, len = tx.length := ⟨_, rfl⟩
          rw [← hlen] at h2 h3 h4 h6
          have hxs : (⟨tx.toArray⟩ : ByteArray) = s.extract a (a + len) := by
            apply (str_eq _ _).2
            rw [mid_str, ← hL.out, h2]
            congr 1
            omega
          rw [hxs] at SG
          have hls := hLn.out
          have c2 : wr.cell? ⟨b, o + i * 4 + 2, none⟩ = some (.int .i64 (a : Int)) := SG 2 _ rfl
          have c3 : wr.cell? ⟨b, o + i * 4 + 3, none⟩ = some (.string (s.extract a (a + len))) := SG 3 _ rfl
          have hxl : (s.extract a (a + len)).size = len := by rw [ByteArray.size_extract]; omega
          have hxlI : ((s.extract a (a + len)).size : Int) = (len : Int) := by rw [hxl]
          subst ea
          have g1 : ¬ (a : Int) < (en : Int) := by omega
          have g2 : ((len : Int) == 0) = false := by rw [beq_eq_false_iff_ne]; omega
          have g3 : ¬ (s.size : Int) < (len : Int) := by omega
          have g4 : (a : Int) + (len : Int) ≤ (s.size : Int) := by omega
          have n1 : decide (a < en) = false := decide_eq_false (by omega)
          have n2 : (len == 0) = false := by rw [beq_eq_false_iff_ne]; omega
          have n3 : decide (s.size < len) = false := decide_eq_false (by omega)
          have b1 : decide ((a : Int) < (en : Int)) = false := decide_eq_false g1
          have b3 : decide ((s.size : Int) < (len : Int)) = false := decide_eq_false g3
          have b4 : decide ((s.size : Int) - (len : Int) < (a : Int)) = false := decide_eq_false (by omega)
          have S2 := Lib.hid (fun v hb => SX.out v hb en a (by rw [h5, List.length_take, List.length_drop]; omega))
          have od6 := Lib.hid h6
          have hale : a ≤ s.size := by omega
          have hene : en ≤ a := by omega
          have hend : a + len ≤ s.size := by omega
          clear hcell SG h1 h2 h3 h4 h5 h6 hlen hxs hls od hbl hxl
          go_wp2
          go_quiet (fail)
          go_wp2
          go_quiet (fail)
          go_wp2_with fail
          refine (S2.out _ (bdrewN (btrans z1.out zr.out) _)).mono ?_
          rintro e9 w5 ⟨⟨oa5, oc5, rfl, _⟩, hb5⟩
          have z5 := Lib.hid (btrans (bdrewN zr.out _) hb5)
          clear hb5 S2 c2 c3 n1 n2 n3 b1 b3 b4 g1 g2 g3
          dsimp only
          go_wp2
          go_roundw
          case rel => exact ⟨i + 1, a + len, rfl, rfl, rfl, by omega, hend, od6, z5⟩
          case measure => simp [intOf]; omega
        · have hilI : ¬ (i : Int) < (nt : Int) := by omega
          go_wp2_with fail
          refine (AW.out wr (btrans z1.out zr.out)).mono ?_
          rintro e9 w9 ⟨rfl, hb9⟩
          go_wp2
          go_ret
          exact ⟨rfl, btrans (btrans z1.out zr.out) hb9⟩
    · have heb : ((e : Int) == 0) = false := by rw [beq_eq_false_iff_ne]; omega
      clear OR he
      go_enter Tryd.func6, Tryd.ntmps6
      go_wp2_with fail
      refine S1.out.mono ?_
      rintro e9 w1 ⟨⟨oa, oc, rfl, own⟩, hb1⟩
      have z1 := Lib.hid hb1
      clear hb1 S1 own
      dsimp only
      go_wp2_with fail
      refine (AW.out w1 z1.out).mono ?_
      rintro e9 w9 ⟨rfl, hb9⟩
      go_wp2
      go_ret
      exact ⟨rfl, btrans z1.out hb9⟩
  · have hlI : (3000 : Int) < (s.size : Int) := by omega
    clear hd hl
    go_enter Tryd.func6, Tryd.ntmps6
    go_wp2_with fail
    refine (AW.out W (Below.refl _ _)).mono ?_
    rintro e w1 ⟨rfl, hb1⟩
    go_wp2
    go_ret
    exact ⟨rfl, hb1⟩
end Go.Proofs.YtahcgbaaimmkfaaDoor
