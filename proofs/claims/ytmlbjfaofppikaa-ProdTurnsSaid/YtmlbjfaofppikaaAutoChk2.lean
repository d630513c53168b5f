/- auto.Check. Conditions: the bounds that an argument brings along. -/
import Derived.Test.YtmlbjfaofppikaaAutoChk
namespace Go.Proofs.Ytmlbjfaofppikaa
open Go.RowKit

abbrev AUT : Nat := 30
theorem chkN_cons {n s : Nat} {x : AN} {l : List AN} : chkN n s (x :: l) = if x.to.any (outB n) then 10 else if x.inn / 2 ^ s ≠ 0 then 3 else chkN n s l := rfl
/-- what an automaton's value looks like -/
theorem AuOk.to {A : AU} (h : AuOk A) {x : AN} (hx : x ∈ A.nodes) : x.to.length ≤ 17592186043904 := (h.nodes x hx).2.2.2.1

theorem shr_ne {n s : Nat} : ((n : Int) / 2 ^ s != 0) = decide (n / 2 ^ s ≠ 0) := by
  rw [show (n : Int) / 2 ^ s = ((n / 2 ^ s : Nat) : Int) by push_cast; rfl]
  generalize n / 2 ^ s = m
  by_cases h : m = 0
  · subst h; rfl
  · rw [decide_eq_true h]
    simpa using h
set_option maxHeartbeats 2000000 in
theorem check_any (w : World) (ai an : Option Addr) (ci cn : Nat) (A : AU) (h : AuAt w ai A.init.length an A.nodes.length A) (ok : AuOk A) :
    Calls Try.prog 33 #[.agg #[.int .i64 A.sets, .slice ai A.init.length ci, .slice an A.nodes.length cn]] w fun e w' => e = .returned (.int .i64 (chk A)) ∧ Below w.heap.size w w' := by
  obtain ⟨s, init, nodes⟩ := A
  have hi := h.init
  have hn := h.nodes
  have hi1 := ok.initL
  have hn1 := ok.nodesL
  have hs1 := ok.sets
  have hok := Lib.hid ok.nodes
  simp only at hi hn hi1 hn1 hs1 hok ⊢
  clear h ok
  generalize hr : chk ⟨s, init, nodes⟩ = r
  unfold chk at hr
  replace hr := Lib.hid hr
  simp only at hr
  by_cases g1 : 256 < nodes.length
  · have g1' : (256 : Int) < (nodes.length : Int) := by omega
    have hr2 : Hid (r = 11) := by have := hr.out; rw [if_pos (.inl g1)] at this; exact this.symm
    obtain rfl := hr2.out
    clear hr hr2 g1
    go_enter Try.func33, Try.ntmps33
    go_wp2
    go_ret
    exact ⟨rfl, balloc (balloc (Below.refl _ _) _) _⟩
  have g1' : decide ((256 : Int) < (nodes.length : Int)) = false := by simp; omega
  by_cases g2 : 16 < s
  · have hr2 : Hid (r = 11) := by have := hr.out; rw [if_pos (.inr g2)] at this; exact this.symm
    obtain rfl := hr2.out
    clear hr hr2
    go_enter Try.func33, Try.ntmps33
    go_wp2
    go_ret
    exact ⟨rfl, balloc (balloc (Below.refl _ _) _) _⟩
  have g2' : decide (16 < s) = false := by simp; omega
  replace hr : Hid ((if s < 0 then 10 else if init.any (outB nodes.length) then 10 else chkN nodes.length s.toNat nodes) = r) := by have := hr.out; rwa [if_neg (by omega)] at this
  by_cases g3 : s < 0
  · have hr2 : Hid (r = 10) := by have := hr.out; rw [if_pos g3] at this; exact this.symm
    obtain rfl := hr2.out
    clear hr hr2
    go_enter Try.func33, Try.ntmps33
    go_wp2
    go_ret
    exact ⟨rfl, balloc (balloc (Below.refl _ _) _) _⟩
  have g3' : decide (s < 0) = false := by simp; omega
  replace hr : Hid ((if init.any (outB nodes.length) then 10 else chkN nodes.length s.toNat nodes) = r) := by have := hr.out; rwa [if_neg (by omega)] at this
  obtain ⟨sn, rfl⟩ := Int.eq_ofNat_of_zero_le (show 0 ≤ s by omega)
  rw [Int.toNat_natCast] at hr
  have hsn : sn ≤ 16 := by omega
  clear g1 g2 g3
  have hb2 : Below w.heap.size w ((w.alloc (.cells #[.int .i64 sn, .slice ai init.length ci, .slice an nodes.length cn] AUT)).alloc (.cells #[.int .i64 nodes.length] 3)) := balloc (balloc (Below.refl _ _) _) _
  have rA : RowAt ((w.alloc (.cells #[.int .i64 sn, .slice ai init.length ci, .slice an nodes.length cn] AUT)).alloc (.cells #[.int .i64 nodes.length] 3)) w.heap.size AUT [.int .i64 sn, .slice ai init.length ci, .slice an nodes.length cn] := (RowAt.new (w := w) #[.int .i64 sn, .slice ai init.length ci, .slice an nodes.length cn] rfl).alloc _
  have rN : RowAt ((w.alloc (.cells #[.int .i64 sn, .slice ai init.length ci, .slice an nodes.length cn] AUT)).alloc (.cells #[.int .i64 nodes.length] 3)) (w.heap.size + 1) 3 [.int .i64 nodes.length] := RowAt.new #[.int .i64 nodes.length] (by simp)
  have C1 := hasout_any _ ai ci (w.heap.size + 1) nodes.length init (hi.below hb2) (by omega) (rN.cell 0)
  replace hi := Lib.hid hi
  replace hn := Lib.hid hn
  cases hI : init.any (outB nodes.length) with
  | true =>
    rw [hI] at C1
    have hr2 : Hid (r = 10) := by have := hr.out; rw [hI, if_pos rfl] at this; exact this.symm
    obtain rfl := hr2.out
    replace C1 := Lib.hid C1
    clear hr hr2 hI rA rN
    go_enter Try.func33, Try.ntmps33
    go_wp2_with fail
    refine C1.out.mono ?_
    rintro e w1 ⟨rfl, m, rfl⟩
    go_wp2
    go_ret
    exact ⟨rfl, bdrewN hb2 _⟩
  | false =>
    rw [hI] at C1
    replace hr : Hid (chkN nodes.length sn nodes = r) := by have := hr.out; rwa [hI, if_neg (by simp)] at this
    replace C1 := Lib.hid C1
    clear hI
    go_enter Try.func33, Try.ntmps33
    go_wp2_with fail
    refine C1.out.mono ?_
    rintro e w1 ⟨rfl, m, rfl⟩
    replace rA := rA.drewN m
    replace rN := rN.drewN m
    replace hb2 := bdrewN hb2 m
    clear C1
    go_wp2
    generalize ((w.alloc (.cells #[.int .i64 sn, .slice ai init.length ci, .slice an nodes.length cn] AUT)).alloc (.cells #[.int .i64 nodes.length] 3)).drewN m = w1 at rA rN hb2 ⊢
    go_loopw [32] (fun iv wr => ∃ k : Nat, k ≤ nodes.length ∧ iv = .int .i64 k ∧ RowAt wr w.heap.size AUT [.int .i64 sn, .slice ai init.length ci, .slice an nodes.length cn] ∧ RowAt wr (w.heap.size + 1) 3 [.int .i64 nodes.length] ∧ Below w.heap.size w wr ∧ Hid (chkN nodes.length sn (nodes.drop k) = r)) (fun iv _ => nodes.length - (intOf iv).toNat)
    case atStart => exact ⟨0, Nat.zero_le _, rfl, rA, rN, hb2, hr⟩
    case round =>
      obtain ⟨k, hk, rfl, sA, sN, hb, hs⟩ := hrel
      clear rA rN hb2 hr
      by_cases hlt : k < nodes.length
      · have hd : nodes.drop k = nodes[k] :: nodes.drop (k + 1) := List.drop_eq_getElem_cons hlt
        have hok1 := hok.out _ (List.getElem_mem hlt)
        obtain ⟨b, off, hab, q0, q1, q2, at_, ct, q3, hto⟩ := (hn.out.below hb).at k hlt
        rw [hd, chkN_cons] at hs
        clear hd
        generalize nodes[k] = x at hs hok1 q0 q1 q2 q3 hto
        obtain ⟨ne, ba, inn, to⟩ := x
        simp only at hs hok1 q0 q1 q2 q3 hto
        obtain ⟨o0, o1, o2, o3, _⟩ := hok1
        have hbb := World.block_lt_of_cell? wr _ q0
        simp only at hbb
        have a0 : wr.cell? ⟨w.heap.size, 0, none⟩ = some (.int .i64 sn) := sA.cell 0
        have nz := sA.lt
        have CT := hasout_any (wr.alloc (.cells #[.int .u64 ne, .int .u64 ba, .int .u64 inn, .slice at_ to.length ct] 75)) at_ ct (w.heap.size + 1) nodes.length to (hto.alloc _) (by omega) ((sN.alloc _).cell 0)
        subst hab
        cases hT : to.any (outB nodes.length) with
        | true =>
          rw [hT] at CT
          have hr2 : Hid (r = 10) := by have := hs.out; rw [hT, if_pos rfl] at this; exact this.symm
          obtain rfl := hr2.out
          replace CT := Lib.hid CT
          clear hr2 hs hT hto
          go_wp2_with fail
          refine CT.out.mono ?_
          rintro e w2 ⟨rfl, m2, rfl⟩
          go_wp2
          go_ret
          exact ⟨rfl, bdrewN (balloc hb _) _⟩
        | false =>
          rw [hT] at CT
          replace hs : Hid ((if inn / 2 ^ sn ≠ 0 then 3 else chkN nodes.length sn (nodes.drop (k + 1))) = r) := by have := hs.out; rwa [hT, if_neg (by simp)] at this
          replace CT := Lib.hid CT
          clear hT hto
          go_wp2_with fail
          refine CT.out.mono ?_
          rintro e w2 ⟨rfl, m2, rfl⟩
          by_cases hz : inn / 2 ^ sn ≠ 0
          · have hq := shr_ne (n := inn) (s := sn)
            rw [decide_eq_true hz] at hq
            have hr2 : Hid (r = 3) := by have := hs.out; rw [if_pos hz] at this; exact this.symm
            obtain rfl := hr2.out
            clear hr2 hs hz
            go_wp2
            go_ret
            exact ⟨rfl, bdrewN (balloc hb _) _⟩
          · have hq := shr_ne (n := inn) (s := sn)
            rw [decide_eq_false hz] at hq
            replace hs : Hid (chkN nodes.length sn (nodes.drop (k + 1)) = r) := by have := hs.out; rwa [if_neg hz] at this
            clear hz
            go_wp2
            go_roundw
            case rel => exact ⟨k + 1, by omega, by go_num, (sA.alloc _).drewN _, (sN.alloc _).drewN _, bdrewN (balloc hb _) _, hs⟩
            case measure => simp [intOf]; omega
      · obtain rfl : k = nodes.length := by omega
        have hr2 : Hid (r = 0) := by have := hs.out; rw [List.drop_length] at this; exact this.symm
        obtain rfl := hr2.out
        clear hr2 hs
        go_wp2
        go_ret
        exact ⟨rfl, hb⟩
end Go.Proofs.Ytmlbjfaofppikaa
