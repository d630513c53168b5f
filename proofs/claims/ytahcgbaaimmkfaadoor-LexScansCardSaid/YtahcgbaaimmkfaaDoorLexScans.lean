/- The walk of 'LexScans'. Conditions: what the listed variables hold. -/
import Derived.Test.YtahcgbaaimmkfaaDoorLexA
import Derived.Test.YtahcgbaaimmkfaaDoorLexI
import Derived.Test.YtahcgbaaimmkfaaDoorLexJ
namespace Go.Proofs.YtahcgbaaimmkfaaDoor
open Go.RowKit
set_option linter.unusedVariables false

theorem TokAt.of_ownE {w : World} {base e : Nat} {a : Option Addr} {c n : Nat} {T : List Tk} (hn : n = T.length) (h : OwnR w base e 4 a n c (tcells T)) : TokAt w a T := fun h0 => by
  subst hn
  obtain ⟨g, e, _, hl⟩ := OwnR.addr h h0
  subst e
  refine ⟨g, 0, rfl, hl, fun i hi j v hj => ?_⟩
  have hj4 : j < 4 := (List.getElem?_eq_some_iff.1 hj).1
  rw [Nat.zero_add, OwnR.cell h (i * 4 + j) (by omega)]
  exact tcells_at T i hi j v hj
set_option maxRecDepth 8000 in
set_option maxHeartbeats 8000000 in
theorem lexScans_walk (W : World) (hd : Door W) (s : ByteArray) (hsz : s.size ≤ reachBytes) : Calls Tryd.prog 3 #[.string s] W fun e w' => e = .returned (.bool true) ∧ Below W.heap.size W w' := by
  clear hsz
  have AW := Lib.hid (fun v (hb : Below W.heap.size W v) => awake_true v (hd.below hb))
  by_cases hl : s.size ≤ 3000
  · have hlI : ¬ (3000 : Int) < (s.size : Int) := by omega
    have S1 := Lib.hid (scan_any W hd s (by omega))
    have S2 := Lib.hid (fun v => rscan_any v s (by omega))
    have SS : (scanLex s.data.toList).toks.length ≤ s.data.toList.length := by
      unfold scanLex
      split
      · exact Nat.zero_le _
      · exact (scan_sum _ _ _ [] (skipG_le _ _) (Nat.zero_le _) (Nat.zero_le _)).2
    rw [Array.length_toList, show s.data.size = s.size from rfl] at SS
    generalize scanLex s.data.toList = r at S1 S2 SS
    obtain ⟨T, at_, e⟩ := r
    dsimp only at SS
    have BT := Lib.hid (fun v a c (ht : TokAt v a T) => back_any v a c T ht (by omega))
    have SM := Lib.hid (fun v a1 a2 c1 c2 (h1 : TokAt v a1 T) (h2 : TokAt v a2 T) => sameAll_any v a1 a2 c1 c2 T h1 h2 (by omega))
    clear SS hd hl
    obtain ⟨n, hn⟩ : ∃ n, n = T.length := ⟨_, rfl⟩
    rw [← hn] at SM BT
    replace hn := Lib.hid hn
    have ha : ((at_ : Int) == (at_ : Int)) = true := beq_self_eq_true _
    have he : ((e : Int) == (e : Int)) = true := beq_self_eq_true _
    clear ha he
    go_enter Tryd.func3, Tryd.ntmps3
    go_wp2_with fail
    refine S1.out.mono ?_
    rintro e9 w1 ⟨⟨oa, oc, rfl, own⟩, hb1⟩
    have z1 := Lib.hid hb1
    have T1 := Lib.hid (TokAt.of_own own)
    clear hb1 S1 own
    dsimp only
    rw [← hn.out]
    go_wp2_with fail
    refine (S2.out w1).mono ?_
    rintro e9 w2 ⟨⟨ob, od, rfl, own⟩, hb2⟩
    have z2 := Lib.hid (btrans z1.out hb2)
    have T2 := Lib.hid (T1.out.below hb2)
    have U2 := Lib.hid (TokAt.of_ownE rfl own)
    clear hb2 T1 S2 own
    dsimp only
    rw [← hn.out]
    go_wp2_with fail
    refine (BT.out w2 oa oc T2.out).mono ?_
    rintro e9 w3 ⟨⟨o3, c3, rfl, own3⟩, hb3⟩
    have z3 := Lib.hid (btrans z2.out hb3)
    have A3 := Lib.hid (TokAt.of_ownE hn.out own3)
    have U3 := Lib.hid (U2.out.below hb3)
    clear hb3 own3 T2 U2 BT
    go_wp2_with fail
    refine (SM.out w3 o3 ob c3 od A3.out U3.out).mono ?_
    rintro e9 w4 ⟨rfl, hq4⟩
    have z4 := Lib.hid (btrans z3.out (hq4.below w3.heap.size))
    clear hq4 SM A3 U3
    go_wp2_with fail
    refine (AW.out w4 z4.out).mono ?_
    rintro e9 w5 ⟨rfl, hb5⟩
    go_wp2
    go_ret
    exact ⟨rfl, btrans z4.out hb5⟩
  · have hlI : (3000 : Int) < (s.size : Int) := by omega
    clear hd hl
    go_enter Tryd.func3, Tryd.ntmps3
    go_wp2_with fail
    refine (AW.out W (Below.refl _ _)).mono ?_
    rintro e w1 ⟨rfl, hb1⟩
    go_wp2
    go_ret
    exact ⟨rfl, hb1⟩
end Go.Proofs.YtahcgbaaimmkfaaDoor
