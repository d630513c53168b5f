/- The walk of 'LexBounds'. Conditions: what the listed variables hold. -/
import Derived.Test.YtahcgbaaimmkfaaDoorLexA
import Derived.Shelf.Strings.Repeat
import Derived.Deep.CutBlock
namespace Go.Proofs.YtahcgbaaimmkfaaDoor
open Go.Shelf Go.RowKit
set_option linter.unusedVariables false

shelf_lay Lays.n105 Nm 105 at Tryd as Tryd.laysRep
theorem Tryd.extraRep : Builder.Extra Tryd.prog Tryd.laysRep_ren where
  sizeBuilder := by kernel_rfl
  liesBuilder := by kernel_rfl
  t5 := Tryd.underlying5
  a5 := Tryd.isAgg5
  z5 := Tryd.sizeOf5
  v5 := Tryd.zeroValue5
  infoByte := by kernel_rfl
  cellsByte := by kernel_rfl
  sizeByte := by kernel_rfl
  neB5 := by decide
theorem rep_a : ∀ n, Lib.repeatL [97, 32] n = repA n
  | 0 => rfl
  | n + 1 => by
    show [97, 32] ++ Lib.repeatL [97, 32] n = _
    rw [rep_a n]
    rfl
theorem rep_b : ∀ n, Lib.repeatL [32] n = List.replicate n (32 : UInt8)
  | 0 => rfl
  | n + 1 => by
    show [32] ++ Lib.repeatL [32] n = _
    rw [rep_b n, List.replicate_succ]
    rfl
theorem scanV (w : World) (hd : Door w) (l : List UInt8) (hl : l.length ≤ 281474976710656) (r : ScR) (hr : scanLex l = r) :
    Calls Tryd.prog 10 #[.string ⟨l.toArray⟩] w fun e w' => ScanV w.heap.size r e w' ∧ Below w.heap.size w w' := by
  subst hr
  exact scan_any w hd ⟨l.toArray⟩ (by show l.toArray.size ≤ _; rw [List.size_toArray]; exact hl)
set_option maxRecDepth 8000 in
set_option maxHeartbeats 8000000 in
theorem lexBounds_walk (W : World) (hd : Door W) (x : Int) (hx : 0 ≤ x ∧ x ≤ 255) (b : Bool) : Calls Tryd.prog 8 #[.int .u8 x, .bool b] W fun e w' => e = .returned (.bool true) ∧ Below W.heap.size W w' := by
  have AW := Lib.hid (fun v (hb : Below W.heap.size W v) => awake_true v (hd.below hb))
  obtain ⟨hx0, hx1⟩ := hx
  obtain ⟨n, hn⟩ : ∃ n : Nat, (5996 + x % 8 : Int) = (n : Int) := ⟨(5996 + x % 8).toNat, by omega⟩
  have hn0 : 5996 ≤ n ∧ n ≤ 6003 := by omega
  have RA : Hid (Calls Tryd.prog 19 #[.string ⟨#[97, 32]⟩, .int .i64 (n : Int)] W fun e w' => e = .returned (.string ⟨(repA n).toArray⟩) ∧ Below W.heap.size W w') := by
    have h := Any.strings_Repeat Tryd.laysRep Tryd.extraRep ⟨#[97, 32]⟩ n W (by omega) (by show 2 * n ≤ _; omega)
    have e : Lib.repeatL (⟨#[97, 32]⟩ : ByteArray).data.toList n = repA n := rep_a n
    rw [e] at h
    exact h
  have RB : ∀ (k : Nat), k ≤ 20001 → ∀ v, Calls Tryd.prog 19 #[.string ⟨#[32]⟩, .int .i64 (k : Int)] v fun e w' => e = .returned (.string ⟨(List.replicate k (32 : UInt8)).toArray⟩) ∧ Below v.heap.size v w' := fun k hk v => by
    have h := Any.strings_Repeat Tryd.laysRep Tryd.extraRep ⟨#[32]⟩ k v (by omega) (by show 1 * k ≤ _; omega)
    have e : Lib.repeatL (⟨#[32]⟩ : ByteArray).data.toList k = List.replicate k 32 := rep_b k
    rw [e] at h
    exact h
  have SA := Lib.hid (fun v (hb : Below W.heap.size W v) => scanV v (hd.below hb) (repA n) (by rw [repA_len]; omega) _ rfl)
  have SB : ∀ (k : Nat), k ≤ 20001 → ∀ v, Below W.heap.size W v → Calls Tryd.prog 10 #[.string ⟨(List.replicate k (32 : UInt8)).toArray⟩] v fun e w' => ScanV v.heap.size (if 20000 < k then ⟨[], 0, 5⟩ else ⟨[], 0, 0⟩) e w' ∧ Below v.heap.size v w' := fun k hk v hb => scanV v (hd.below hb) _ (by rw [List.length_replicate]; omega) _ (lex_blanks k)
  have LR := lex_rep n (by omega)
  obtain ⟨ra, hra⟩ : ∃ ra : ByteArray, ra = ⟨(repA n).toArray⟩ := ⟨_, rfl⟩
  rw [← hra] at RA SA
  generalize scanLex (repA n) = r at SA LR
  clear hra hd
  have B1r := Lib.hid (RB 20001 (by omega))
  have B1s := Lib.hid (SB 20001 (by omega))
  rw [if_pos (by omega)] at B1s
  have B0r := Lib.hid (RB 20000 (by omega))
  have B0s := Lib.hid (SB 20000 (by omega))
  rw [if_neg (by omega)] at B0s
  obtain ⟨s1, hs1⟩ : ∃ s : ByteArray, s = ⟨(List.replicate 20001 (32 : UInt8)).toArray⟩ := ⟨_, rfl⟩
  obtain ⟨s0, hs0⟩ : ∃ s : ByteArray, s = ⟨(List.replicate 20000 (32 : UInt8)).toArray⟩ := ⟨_, rfl⟩
  rw [← hs1] at B1r B1s
  rw [← hs0] at B0r B0s
  clear hs1 hs0 RB SB
  rw [show ((20001 : Nat) : Int) = 20001 from rfl] at B1r
  rw [show ((20000 : Nat) : Int) = 20000 from rfl] at B0r
  replace RA := RA
  replace hn := Lib.hid hn
  by_cases h6 : n ≤ 6000
  · have h6I : (n : Int) ≤ 6000 := by omega
    obtain ⟨he, ha, hT⟩ := LR.1 h6
    obtain ⟨T, at_, e⟩ := r
    dsimp only at he ha hT
    subst he
    subst ha
    have hTI : (T.length : Int) = (n : Int) := by rw [hT]
    clear LR hn0 h6 hT
    cases b with
    | true =>
      go_enter Tryd.func8, Tryd.ntmps8
      go_upto_region 2 with (fail)
      rw [hn.out]
      clear hn
      go_wp2_with fail
      refine RA.out.mono ?_
      rintro e9 w1 ⟨rfl, hb1⟩
      have z1 := Lib.hid hb1
      clear hb1 RA
      go_wp2_with fail
      refine (SA.out w1 z1.out).mono ?_
      rintro e9 w2 ⟨⟨oa, oc, rfl, _⟩, hb2⟩
      have z2 := Lib.hid (btrans z1.out hb2)
      clear hb2 SA z1
      dsimp only
      obtain ⟨tl, htl⟩ : ∃ tl, tl = T.length := ⟨_, rfl⟩
      rw [← htl] at hTI ⊢
      obtain rfl : tl = n := by omega
      clear htl hTI
      go_wp2_with fail
      refine (B1r.out w2).mono ?_
      rintro e9 w3 ⟨rfl, hb3⟩
      have z3 := Lib.hid (btrans z2.out hb3)
      clear hb3 z2
      go_wp2_with fail
      refine (B1s.out w3 z3.out).mono ?_
      rintro e9 w4 ⟨⟨oa4, oc4, rfl, _⟩, hb4⟩
      have z4 := Lib.hid (btrans z3.out hb4)
      clear hb4 z3
      dsimp only
      go_wp2_with fail
      refine (AW.out w4 z4.out).mono ?_
      rintro e9 w5 ⟨rfl, hb5⟩
      go_wp2
      go_ret
      exact ⟨rfl, btrans z4.out hb5⟩
    | false =>
      go_enter Tryd.func8, Tryd.ntmps8
      go_upto_region 2 with (fail)
      rw [hn.out]
      clear hn
      go_wp2_with fail
      refine RA.out.mono ?_
      rintro e9 w1 ⟨rfl, hb1⟩
      have z1 := Lib.hid hb1
      clear hb1 RA
      go_wp2_with fail
      refine (SA.out w1 z1.out).mono ?_
      rintro e9 w2 ⟨⟨oa, oc, rfl, _⟩, hb2⟩
      have z2 := Lib.hid (btrans z1.out hb2)
      clear hb2 SA z1
      dsimp only
      obtain ⟨tl, htl⟩ : ∃ tl, tl = T.length := ⟨_, rfl⟩
      rw [← htl] at hTI ⊢
      obtain rfl : tl = n := by omega
      clear htl hTI
      go_wp2_with fail
      refine (B0r.out w2).mono ?_
      rintro e9 w3 ⟨rfl, hb3⟩
      have z3 := Lib.hid (btrans z2.out hb3)
      clear hb3 z2
      go_wp2_with fail
      refine (B0s.out w3 z3.out).mono ?_
      rintro e9 w4 ⟨⟨oa4, oc4, rfl, _⟩, hb4⟩
      have z4 := Lib.hid (btrans z3.out hb4)
      clear hb4 z3
      dsimp only
      go_wp2_with fail
      refine (AW.out w4 z4.out).mono ?_
      rintro e9 w5 ⟨rfl, hb5⟩
      go_wp2
      go_ret
      exact ⟨rfl, btrans z4.out hb5⟩
  · have h6I : ¬ (n : Int) ≤ 6000 := by omega
    have h7I : (6000 : Int) < (n : Int) := by omega
    have hr := LR.2 (by omega)
    subst hr
    clear LR hn0 h6
    cases b with
    | true =>
      go_enter Tryd.func8, Tryd.ntmps8
      go_upto_region 2 with (fail)
      rw [hn.out]
      clear hn
      go_wp2_with fail
      refine RA.out.mono ?_
      rintro e9 w1 ⟨rfl, hb1⟩
      have z1 := Lib.hid hb1
      clear hb1 RA
      go_wp2_with fail
      refine (SA.out w1 z1.out).mono ?_
      rintro e9 w2 ⟨⟨oa, oc, rfl, _⟩, hb2⟩
      have z2 := Lib.hid (btrans z1.out hb2)
      clear hb2 SA z1
      dsimp only
      go_wp2_with fail
      refine (B1r.out w2).mono ?_
      rintro e9 w3 ⟨rfl, hb3⟩
      have z3 := Lib.hid (btrans z2.out hb3)
      clear hb3 z2
      go_wp2_with fail
      refine (B1s.out w3 z3.out).mono ?_
      rintro e9 w4 ⟨⟨oa4, oc4, rfl, _⟩, hb4⟩
      have z4 := Lib.hid (btrans z3.out hb4)
      clear hb4 z3
      dsimp only
      go_wp2_with fail
      refine (AW.out w4 z4.out).mono ?_
      rintro e9 w5 ⟨rfl, hb5⟩
      go_wp2
      go_ret
      exact ⟨rfl, btrans z4.out hb5⟩
    | false =>
      go_enter Tryd.func8, Tryd.ntmps8
      go_upto_region 2 with (fail)
      rw [hn.out]
      clear hn
      go_wp2_with fail
      refine RA.out.mono ?_
      rintro e9 w1 ⟨rfl, hb1⟩
      have z1 := Lib.hid hb1
      clear hb1 RA
      go_wp2_with fail
      refine (SA.out w1 z1.out).mono ?_
      rintro e9 w2 ⟨⟨oa, oc, rfl, _⟩, hb2⟩
      have z2 := Lib.hid (btrans z1.out hb2)
      clear hb2 SA z1
      dsimp only
      go_wp2_with fail
      refine (B0r.out w2).mono ?_
      rintro e9 w3 ⟨rfl, hb3⟩
      have z3 := Lib.hid (btrans z2.out hb3)
      clear hb3 z2
      go_wp2_with fail
      refine (B0s.out w3 z3.out).mono ?_
      rintro e9 w4 ⟨⟨oa4, oc4, rfl, _⟩, hb4⟩
      have z4 := Lib.hid (btrans z3.out hb4)
      clear hb4 z3
      dsimp only
      go_wp2_with fail
      refine (AW.out w4 z4.out).mono ?_
      rintro e9 w5 ⟨rfl, hb5⟩
      go_wp2
      go_ret
      exact ⟨rfl, btrans z4.out hb5⟩
end Go.Proofs.YtahcgbaaimmkfaaDoor
