/- The law's same: whether rows of pairs are alike. Conditions: a bound. -/
import Derived.Test.YtmlbjfaofppikaaPrRedge
namespace Go.Proofs.Ytmlbjfaofppikaa
open Go.RowKit

theorem take_same {la lb : List PP} {k : Nat} (ha : k < la.length) (hb : k < lb.length) (h : la.take k = lb.take k) (he : la[k] = lb[k]) : la.take (k + 1) = lb.take (k + 1) := by
  rw [List.take_add_one, List.take_add_one, List.getElem?_eq_getElem ha, List.getElem?_eq_getElem hb, h, he]
set_option maxHeartbeats 2000000 in
theorem same_any (w : World) (a b : Option Addr) (c d : Nat) (la lb : List PP) (ha : PpsAt w a la) (hb : PpsAt w b lb) (hl : la.length ≤ 1000000) :
    Calls Try.prog 19 #[.slice a la.length c, .slice b lb.length d] w fun e w' => e = .returned (.bool (decide (la = lb))) ∧ Below w.heap.size w w' := by
  by_cases hlen : la.length = lb.length
  · have hlb : ((la.length : Int) != (lb.length : Int)) = false := by simp; omega
    obtain ⟨R, hR⟩ : ∃ R, R = decide (la = lb) := ⟨_, rfl⟩
    rw [← hR]
    replace hR := Lib.hid hR
    replace ha := Lib.hid ha
    replace hb := Lib.hid hb
    replace hlen := Lib.hid hlen
    go_enter Try.func19, Try.ntmps19
    go_wp2
    go_loopw [4, 5] (fun bv iv wr => ∃ k m : Nat, bv = .bool false ∧ k ≤ la.length ∧ iv = .int .i64 k ∧ wr = w.drewN m ∧ Hid (la.take k = lb.take k)) (fun _ iv _ => la.length - (intOf iv).toNat)
    case atStart => exact ⟨0, 0, rfl, Nat.zero_le _, rfl, rfl, by simp [Hid]⟩
    case round =>
      obtain ⟨k, m, rfl, hk, rfl, rfl, hs⟩ := hrel
      by_cases hlt : k < la.length
      · have hlt' : k < lb.length := by have := hlen.out; omega
        obtain ⟨g, o, hga, _, f0, f1, f2⟩ := ha.out.at k hlt
        obtain ⟨g', o', hgb, _, e0, e1, e2⟩ := hb.out.at k hlt'
        have hyes : Hid (la[k] = lb[k] → la.take (k + 1) = lb.take (k + 1)) := take_same hlt hlt' hs.out
        have hno : Hid (la[k] ≠ lb[k] → R = false) := fun hne => by
          rw [hR.out, decide_eq_false]
          rintro rfl
          exact hne rfl
        generalize la[k] = x at f0 f1 f2 hyes hno
        generalize lb[k] = y at e0 e1 e2 hyes hno
        obtain ⟨xn, xs, xt⟩ := x
        obtain ⟨yn, ys, yt⟩ := y
        simp only at f0 f1 f2 e0 e1 e2
        have hk2 : (k : Int) < (la.length : Int) := by omega
        have hk3 : (k : Int) < (lb.length : Int) := by omega
        subst hga hgb
        clear hs hlt'
        by_cases h1 : xn = yn
        · subst h1
          by_cases h2 : xs = ys
          · subst h2
            by_cases h3 : xt = yt
            · subst h3
              have hs2 := Lib.hid (hyes.out rfl)
              clear hyes hno
              go_wp2
              go_quiet (fail)
              go_wp2
              go_roundw
              case rel => exact ⟨k + 1, _, rfl, by omega, by go_num, by first | rfl | exact World.drewN_drewN _ _ _, hs2⟩
              case measure => simp [intOf]; omega
            · have hz : (xt == yt) = false := by simpa using h3
              have hr := Lib.hid (hno.out (by intro e; cases e; exact h3 rfl))
              clear hyes hno h3
              go_wp2
              go_quiet (fail)
              go_wp2
              go_ret
              rw [hr.out]
              exact ⟨rfl, by first | exact bdrewN (Below.refl _ _) _ | (rw [World.drewN_drewN]; exact bdrewN (Below.refl _ _) _)⟩
          · have hz : (xs == ys) = false := by simpa using h2
            have hr := Lib.hid (hno.out (by intro e; cases e; exact h2 rfl))
            clear hyes hno h2
            go_wp2
            go_quiet (fail)
            go_wp2
            go_ret
            rw [hr.out]
            exact ⟨rfl, by first | exact bdrewN (Below.refl _ _) _ | (rw [World.drewN_drewN]; exact bdrewN (Below.refl _ _) _)⟩
        · have hz : (xn == yn) = false := by simpa using h1
          have hr := Lib.hid (hno.out (by intro e; cases e; exact h1 rfl))
          clear hyes hno h1
          go_wp2
          go_quiet (fail)
          go_wp2
          go_ret
          rw [hr.out]
          exact ⟨rfl, by first | exact bdrewN (Below.refl _ _) _ | (rw [World.drewN_drewN]; exact bdrewN (Below.refl _ _) _)⟩
      · obtain rfl : k = la.length := by omega
        have he : Hid (R = true) := by
          show _ = _
          have := hs.out
          rw [List.take_length, hlen.out, List.take_length] at this
          rw [hR.out, decide_eq_true this]
        go_wp2
        go_ret
        rw [he.out]
        exact ⟨rfl, bdrewN (Below.refl _ _) _⟩
  · have hlb : ((la.length : Int) != (lb.length : Int)) = true := by simp; omega
    rw [decide_eq_false (show ¬ la = lb from fun e => hlen (by rw [e]))]
    go_enter Try.func19, Try.ntmps19
    go_wp2
    go_ret
    exact ⟨rfl, Below.refl _ _⟩
end Go.Proofs.Ytmlbjfaofppikaa
