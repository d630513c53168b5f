/- The document's Check of automata. Conditions: the bounds that an argument brings along. -/
import Derived.Test.YtmlbjfaofppikaaAutoChk2
namespace Go.Proofs.Ytmlbjfaofppikaa
open Go.RowKit

theorem any_snoc {p : Int → Bool} {xs : List Int} {k : Nat} (hk : k < xs.length) (h : (xs.take k).any p = false) : (xs.take (k + 1)).any p = p xs[k] := by
  rw [List.take_add_one, List.getElem?_eq_getElem hk, Option.toList_some, List.any_append, h]
  simp
theorem any_of_take {p : Int → Bool} {xs : List Int} {k : Nat} (h : (xs.take k).any p = true) : xs.any p = true := by
  rw [List.any_eq_true] at h ⊢
  obtain ⟨y, hy, hy2⟩ := h
  exact ⟨y, List.mem_of_mem_take hy, hy2⟩

set_option maxHeartbeats 4000000 in
theorem rcheck_any (w : World) (ai an : Option Addr) (ci cn : Nat) (A : AU) (h : AuAt w ai A.init.length an A.nodes.length A) (ok : AuOk A) :
    Calls Try.prog 31 #[.agg #[.int .i64 A.sets, .slice ai A.init.length ci, .slice an A.nodes.length cn]] w fun e w' => e = .returned (.int .i64 (chk A)) ∧ Below w.heap.size w w' := by
  obtain ⟨s, init, nodes⟩ := A
  have hi := h.init
  have hn := h.nodes
  have hi1 := ok.initL
  have hn1 := ok.nodesL
  have hs1 := ok.sets
  have hok := Lib.hid ok.nodes
  simp only at hi hn hi1 hn1 hs1 hok ⊢
  clear h ok
  generalize hr : chk ⟨s, init, nodes⟩ = r
  unfold chk at hr
  replace hr := Lib.hid hr
  simp only at hr
  by_cases g1 : 256 < nodes.length
  · have g1' : (256 : Int) < (nodes.length : Int) := by omega
    have hr2 : Hid (r = 11) := by have := hr.out; rw [if_pos (.inl g1)] at this; exact this.symm
    obtain rfl := hr2.out
    clear hr hr2 g1
    go_enter Try.func31, Try.ntmps31
    go_wp2
    go_ret
    exact ⟨rfl, balloc (Below.refl _ _) _⟩
  have g1' : decide ((256 : Int) < (nodes.length : Int)) = false := by simp; omega
  by_cases g2 : 16 < s
  · have hr2 : Hid (r = 11) := by have := hr.out; rw [if_pos (.inr g2)] at this; exact this.symm
    obtain rfl := hr2.out
    clear hr hr2
    go_enter Try.func31, Try.ntmps31
    go_wp2
    go_ret
    exact ⟨rfl, balloc (Below.refl _ _) _⟩
  have g2' : decide (16 < s) = false := by simp; omega
  replace hr : Hid ((if s < 0 then 10 else if init.any (outB nodes.length) then 10 else chkN nodes.length s.toNat nodes) = r) := by have := hr.out; rwa [if_neg (by omega)] at this
  by_cases g3 : s < 0
  · have hr2 : Hid (r = 10) := by have := hr.out; rw [if_pos g3] at this; exact this.symm
    obtain rfl := hr2.out
    clear hr hr2
    go_enter Try.func31, Try.ntmps31
    go_wp2
    go_ret
    exact ⟨rfl, balloc (Below.refl _ _) _⟩
  have g3' : decide (s < 0) = false := by simp; omega
  replace hr : Hid ((if init.any (outB nodes.length) then 10 else chkN nodes.length s.toNat nodes) = r) := by have := hr.out; rwa [if_neg (by omega)] at this
  obtain ⟨sn, rfl⟩ := Int.eq_ofNat_of_zero_le (show 0 ≤ s by omega)
  rw [Int.toNat_natCast] at hr
  have hsn : sn ≤ 16 := by omega
  clear g1 g2 g3
  have rA : RowAt (w.alloc (.cells #[.int .i64 sn, .slice ai init.length ci, .slice an nodes.length cn] AUT)) w.heap.size AUT [.int .i64 sn, .slice ai init.length ci, .slice an nodes.length cn] := RowAt.new (w := w) #[.int .i64 sn, .slice ai init.length ci, .slice an nodes.length cn] rfl
  have hb0 : Below w.heap.size w (w.alloc (.cells #[.int .i64 sn, .slice ai init.length ci, .slice an nodes.length cn] AUT)) := balloc (Below.refl _ _) _
  have HB := Lib.hid (fun m => bdrewN hb0 m)
  have hi := hi.below hb0
  have hn := hn.below hb0
  have hwl := rA.lt
  replace hi := Lib.hid hi
  replace hn := Lib.hid hn
  go_enter Try.func31, Try.ntmps31
  clear hb0
  go_wp2
  have HW : ∃ w1, w1 = w.alloc (.cells #[.int .i64 sn, .slice ai init.length ci, .slice an nodes.length cn] AUT) := ⟨_, rfl⟩
  obtain ⟨w1, hw1⟩ := HW
  rw [← hw1] at rA HB hi hn hwl
  change Code.wp _ _ _ _ (w.alloc (.cells #[.int .i64 sn, .slice ai init.length ci, .slice an nodes.length cn] AUT))
  rw [← hw1]
  clear hw1
  go_loopw [3] (fun iv wr => ∃ k m : Nat, k ≤ init.length ∧ iv = .int .i64 k ∧ wr = w1.drewN m ∧ Hid ((init.take k).any (outB nodes.length) = false)) (fun iv _ => init.length - (intOf iv).toNat)
  case atStart => exact ⟨0, 0, Nat.zero_le _, rfl, rfl, by simp [Hid]⟩
  case round =>
    obtain ⟨k, m, hk, rfl, rfl, hall⟩ := hrel
    have a0 : w1.cell? ⟨w.heap.size, 0, none⟩ = some (.int .i64 sn) := rA.cell 0
    have a1 : w1.cell? ⟨w.heap.size, 1, none⟩ = some (.slice ai init.length ci) := rA.cell 1
    have a2 : w1.cell? ⟨w.heap.size, 2, none⟩ = some (.slice an nodes.length cn) := rA.cell 2
    by_cases hlt : k < init.length
    · obtain ⟨bb, off, x, hab, cx, hx⟩ := hi.out.at k hlt
      have hx2 : x = init[k] := by rw [hx.out, List.getD_eq_getElem?_getD, List.getElem?_eq_getElem hlt]; rfl
      have hst := Lib.hid (any_snoc hlt hall.out)
      rw [← hx2] at hst
      clear hx2 hall hx
      subst hab
      by_cases h0 : x < 0
      · have hr2 : Hid (r = 10) := by
          have := hr.out
          rw [if_pos (any_of_take (k := k + 1) (by rw [hst.out]; unfold outB; rw [decide_eq_true h0]; rfl))] at this
          exact this.symm
        obtain rfl := hr2.out
        clear hr2 hst hr
        go_wp2
        go_quiet (fail)
        go_wp2
        go_ret
        exact ⟨rfl, by first | exact HB.out _ | (rw [World.drewN_drewN]; exact HB.out _)⟩
      · have h0' : decide (x < 0) = false := decide_eq_false h0
        by_cases h1 : (nodes.length : Int) ≤ x
        · have hr2 : Hid (r = 10) := by
            have := hr.out
            rw [if_pos (any_of_take (k := k + 1) (by rw [hst.out]; unfold outB; rw [decide_eq_true h1]; simp))] at this
            exact this.symm
          obtain rfl := hr2.out
          clear hr2 hst hr h0
          go_wp2
          go_quiet (fail)
          go_wp2
          go_ret
          exact ⟨rfl, by first | exact HB.out _ | (rw [World.drewN_drewN]; exact HB.out _)⟩
        · have h1' : decide ((nodes.length : Int) ≤ x) = false := decide_eq_false h1
          have hst2 : Hid ((init.take (k + 1)).any (outB nodes.length) = false) := by show _ = _; rw [hst.out]; unfold outB; rw [h0', h1']; rfl
          clear hst h0 h1
          go_wp2
          go_quiet (fail)
          go_wp2
          go_roundw
          case rel => exact ⟨k + 1, _, by omega, by go_num, by first | rfl | exact World.drewN_drewN _ _ _, hst2⟩
          case measure => simp [intOf]; omega
    · obtain rfl : k = init.length := by omega
      replace hr : Hid (chkN nodes.length sn nodes = r) := by
        have := hr.out
        have h2 := hall.out
        rw [List.take_length] at h2
        rwa [h2, if_neg (by simp)] at this
      clear hall
      go_wp2
      go_loopw [4] (fun iv wr => ∃ k m : Nat, k ≤ nodes.length ∧ iv = .int .i64 k ∧ wr = w1.drewN m ∧ Hid (chkN nodes.length sn (nodes.drop k) = r)) (fun iv _ => nodes.length - (intOf iv).toNat)
      case atStart => exact ⟨0, m, Nat.zero_le _, rfl, rfl, hr⟩
      case round =>
        obtain ⟨k, m, hk, rfl, rfl, hs⟩ := hrel
        clear hr
        by_cases hlt : k < nodes.length
        · have hd : nodes.drop k = nodes[k] :: nodes.drop (k + 1) := List.drop_eq_getElem_cons hlt
          have hok1 := hok.out _ (List.getElem_mem hlt)
          obtain ⟨b, off, hab, q0, q1, q2, at_, ct, q3, hto⟩ := hn.out.at k hlt
          rw [hd, chkN_cons] at hs
          clear hd
          generalize nodes[k] = x at hs hok1 q0 q1 q2 q3 hto
          obtain ⟨ne, ba, inn, to⟩ := x
          simp only at hs hok1 q0 q1 q2 q3 hto
          obtain ⟨o0, o1, o2, o3, _⟩ := hok1
          subst hab
          replace hto := Lib.hid hto
          go_wp2
          go_loopw [5] (fun jv wr => ∃ j m : Nat, j ≤ to.length ∧ jv = .int .i64 j ∧ wr = w1.drewN m ∧ Hid ((to.take j).any (outB nodes.length) = false)) (fun jv _ => to.length - (intOf jv).toNat)
          case atStart => exact ⟨0, m, Nat.zero_le _, rfl, rfl, by simp [Hid]⟩
          case round =>
            obtain ⟨j, m, hj, rfl, rfl, hall⟩ := hrel
            by_cases hlt2 : j < to.length
            · obtain ⟨bb, of2, x, hab, cx, hx⟩ := hto.out.at j hlt2
              have hx2 : x = to[j] := by rw [hx.out, List.getD_eq_getElem?_getD, List.getElem?_eq_getElem hlt2]; rfl
              have hst := Lib.hid (any_snoc hlt2 hall.out)
              rw [← hx2] at hst
              clear hx2 hall hx
              subst hab
              by_cases h0 : x < 0
              · have hr2 : Hid (r = 10) := by
                  have := hs.out
                  rw [if_pos (any_of_take (k := j + 1) (by rw [hst.out]; unfold outB; rw [decide_eq_true h0]; rfl))] at this
                  exact this.symm
                obtain rfl := hr2.out
                clear hr2 hst hs
                go_wp2
                go_quiet (fail)
                go_wp2
                go_ret
                exact ⟨rfl, by first | exact HB.out _ | (rw [World.drewN_drewN]; exact HB.out _)⟩
              · have h0' : decide (x < 0) = false := decide_eq_false h0
                by_cases h1 : (nodes.length : Int) ≤ x
                · have hr2 : Hid (r = 10) := by
                    have := hs.out
                    rw [if_pos (any_of_take (k := j + 1) (by rw [hst.out]; unfold outB; rw [decide_eq_true h1]; simp))] at this
                    exact this.symm
                  obtain rfl := hr2.out
                  clear hr2 hst hs h0
                  go_wp2
                  go_quiet (fail)
                  go_wp2
                  go_ret
                  exact ⟨rfl, by first | exact HB.out _ | (rw [World.drewN_drewN]; exact HB.out _)⟩
                · have h1' : decide ((nodes.length : Int) ≤ x) = false := decide_eq_false h1
                  have hst2 : Hid ((to.take (j + 1)).any (outB nodes.length) = false) := by show _ = _; rw [hst.out]; unfold outB; rw [h0', h1']; rfl
                  clear hst h0 h1
                  go_wp2
                  go_quiet (fail)
                  go_wp2
                  go_roundw
                  case rel => exact ⟨j + 1, _, by omega, by go_num, by first | rfl | exact World.drewN_drewN _ _ _, hst2⟩
                  case measure => simp [intOf]; omega
            · obtain rfl : j = to.length := by omega
              replace hs : Hid ((if inn / 2 ^ sn ≠ 0 then 3 else chkN nodes.length sn (nodes.drop (k + 1))) = r) := by
                have := hs.out
                have h2 := hall.out
                rw [List.take_length] at h2
                rwa [h2, if_neg (by simp)] at this
              clear hall
              have hq := shr_ne (n := inn) (s := sn)
              have e64 : IntKind.u64.wrap (sn : Int) = (sn : Int) := IntWalk.u64_in _ (by omega)
              by_cases hz : inn / 2 ^ sn ≠ 0
              · rw [decide_eq_true hz] at hq
                have hr2 : Hid (r = 3) := by have := hs.out; rw [if_pos hz] at this; exact this.symm
                obtain rfl := hr2.out
                clear hr2 hs hz
                go_wp2
                go_quiet (fail)
                go_wp2
                go_ret
                exact ⟨rfl, by first | exact HB.out _ | (rw [World.drewN_drewN]; exact HB.out _)⟩
              · rw [decide_eq_false hz] at hq
                replace hs : Hid (chkN nodes.length sn (nodes.drop (k + 1)) = r) := by have := hs.out; rwa [if_neg hz] at this
                clear hz
                go_wp2
                go_quiet (fail)
                go_wp2
                go_roundw
                case rel => exact ⟨k + 1, _, by omega, by go_num, by first | rfl | exact World.drewN_drewN _ _ _, hs⟩
                case measure => simp [intOf]; omega
        · obtain rfl : k = nodes.length := by omega
          have hr2 : Hid (r = 0) := by have := hs.out; rw [List.drop_length] at this; exact this.symm
          obtain rfl := hr2.out
          clear hr2 hs
          go_wp2
          go_ret
          exact ⟨rfl, by first | exact HB.out _ | (rw [World.drewN_drewN]; exact HB.out _)⟩
end Go.Proofs.Ytmlbjfaofppikaa
