/- Whether a node can go on as another one does. Conditions: the bounds of an automaton that may be. -/
import Derived.Test.YtnllgigolfakpaaSimMat
import Derived.Test.YtnllgigolfakpaaAutoChk2
namespace Go.Proofs.Ytnllgigolfakpaa
open Go.RowKit

set_option maxHeartbeats 2000000 in
theorem follows_any (w : World) (ai an : Option Addr) (ni ci cn : Nat) (A : AU) (h : NodesAt w an A.nodes) (ok : AuOk A) (hc : chk A = 0) (g cr : Nat) (R : Nat → Nat → Bool) (hm : MatAt w g A.nodes.length R) (i k : Nat) (hi : i < A.nodes.length) (hk : k < A.nodes.length) :
    Calls Try.prog 23 #[.agg #[.int .i64 A.sets, .slice ai ni ci, .slice an A.nodes.length cn], .slice (some ⟨g, 0, none⟩) A.nodes.length cr, .int .i64 (i : Int), .int .i64 (k : Int)] w fun e w' => e = .returned (.bool (folB R (nd A i) (nd A k))) ∧ Below w.heap.size w w' := by
  have hn := (chk_good hc).1
  have hx1 := nd_to hc hi
  have hy1 := nd_to hc hk
  have hx2 := ok.to (List.getElem_mem hi)
  have hy2 := ok.to (List.getElem_mem hk)
  rw [nd_get hi] at hx1 ⊢
  rw [nd_get hk] at hy1 ⊢
  obtain ⟨b1, o1, hab, p0, p1, p2, ax, cx, p3, htx⟩ := h.at i hi
  obtain ⟨b2, o2, hab2, q0, q1, q2, ay, cy, q3, hty⟩ := h.at k hk
  rw [hab] at hab2
  cases hab2
  obtain ⟨s, init, nodes⟩ := A
  simp only at hn hx1 hy1 hx2 hy2 hi hk hm p0 p1 p2 p3 htx q0 q1 q2 q3 hty hab ⊢
  generalize nodes[i] = x at hx1 hx2 p0 p1 p2 p3 htx ⊢
  generalize nodes[k] = y at hy1 hy2 q0 q1 q2 q3 hty ⊢
  obtain ⟨xn, xb, xi, xs⟩ := x
  obtain ⟨yn, yb, yi, ys⟩ := y
  simp only at hx1 hx2 p0 p1 p2 p3 htx hy1 hy2 q0 q1 q2 q3 hty ⊢
  have hb2 : Below w.heap.size w ((w.alloc (.cells #[.int .i64 s, .slice ai ni ci, .slice an nodes.length cn] AUT)).alloc (.cells #[.slice (some ⟨g, 0, none⟩) nodes.length cr] 46)) := balloc (balloc (Below.refl _ _) _) _
  have rA : RowAt ((w.alloc (.cells #[.int .i64 s, .slice ai ni ci, .slice an nodes.length cn] AUT)).alloc (.cells #[.slice (some ⟨g, 0, none⟩) nodes.length cr] 46)) w.heap.size AUT [.int .i64 s, .slice ai ni ci, .slice an nodes.length cn] := (RowAt.new (w := w) #[.int .i64 s, .slice ai ni ci, .slice an nodes.length cn] rfl).alloc _
  have rR : RowAt ((w.alloc (.cells #[.int .i64 s, .slice ai ni ci, .slice an nodes.length cn] AUT)).alloc (.cells #[.slice (some ⟨g, 0, none⟩) nodes.length cr] 46)) (w.heap.size + 1) 46 [.slice (some ⟨g, 0, none⟩) nodes.length cr] := RowAt.new #[.slice (some ⟨g, 0, none⟩) nodes.length cr] (by simp)
  have c2 : ((w.alloc (.cells #[.int .i64 s, .slice ai ni ci, .slice an nodes.length cn] AUT)).alloc (.cells #[.slice (some ⟨g, 0, none⟩) nodes.length cr] 46)).cell? ⟨w.heap.size, 2, none⟩ = some (.slice an nodes.length cn) := rA.cell 2
  have c3 := bcell hb2 p3
  have hin : (i : Int) < (nodes.length : Int) := by omega
  have hkn : (k : Int) < (nodes.length : Int) := by omega
  obtain ⟨r, hr⟩ : ∃ r, r = folB R ⟨xn, xb, xi, xs⟩ ⟨yn, yb, yi, ys⟩ := ⟨_, rfl⟩
  rw [← hr]
  replace hr : Hid (r = xs.all fun t => ys.any fun u => R t.toNat u.toNat) := hr
  replace hx1 := Lib.hid hx1
  replace hy1 := Lib.hid hy1
  replace hx2 := Lib.hid hx2
  replace hy2 := Lib.hid hy2
  replace hn := Lib.hid hn
  replace hb2 := Lib.hid hb2
  replace rA := Lib.hid rA
  replace rR := Lib.hid rR
  replace htx := Lib.hid htx
  replace hty := Lib.hid hty
  replace hm := Lib.hid hm
  subst hab
  clear p0 p1 p2 q0 q1 q2 h ok hc hi hk
  go_enter Try.func23, Try.ntmps23
  go_wp2
  generalize (w.alloc (.cells #[.int .i64 s, .slice ai ni ci, .slice (some ⟨b1, o1, none⟩) nodes.length cn] AUT)).alloc (.cells #[.slice (some ⟨g, 0, none⟩) nodes.length cr] 46) = w1 at hb2 rA rR c2 c3 ⊢
  go_loopw [8, 18] (fun bv iv wr => ∃ j : Nat, j ≤ xs.length ∧ iv = .int .i64 j ∧ bv = .bool false ∧ RowAt wr w.heap.size AUT [.int .i64 s, .slice ai ni ci, .slice (some ⟨b1, o1, none⟩) nodes.length cn] ∧ RowAt wr (w.heap.size + 1) 46 [.slice (some ⟨g, 0, none⟩) nodes.length cr] ∧ Below w.heap.size w wr ∧ Hid ((xs.take j).all (fun t => ys.any fun u => R t.toNat u.toNat) = true)) (fun _ iv _ => xs.length - (intOf iv).toNat)
  case atStart => exact ⟨0, Nat.zero_le _, rfl, rfl, rA.out, rR.out, hb2.out, by simp [Hid]⟩
  case round =>
    obtain ⟨j, hj, rfl, rfl, sA, sR, hb, hall⟩ := hrel
    clear rA rR hb2 c2 c3
    by_cases hlt : j < xs.length
    · obtain ⟨bt, ot, v, hat, cv, hv⟩ := (htx.out.below hb).at j hlt
      have hv2 : v = xs[j] := by rw [hv.out, List.getD_eq_getElem?_getD, List.getElem?_eq_getElem hlt]; rfl
      obtain ⟨h0x, hxn⟩ := hx1.out v (by rw [hv2]; exact List.getElem_mem hlt)
      have hst : Hid ((xs.take (j + 1)).all (fun t => ys.any fun u => R t.toNat u.toNat) = ys.any (fun u => R v.toNat u.toNat)) := by
        show _ = _
        rw [List.take_add_one, List.getElem?_eq_getElem hlt, Option.toList_some, List.all_append, hall.out, ← hv2]
        simp
      clear hv2 hv
      obtain ⟨t, rfl⟩ := Int.eq_ofNat_of_zero_le h0x
      rw [Int.toNat_natCast] at hst
      have hA2 : Below wr.heap.size wr (wr.alloc (.cells #[.int .i64 (t : Int)] 3)) := balloc (Below.refl _ _) _
      have rT : RowAt (wr.alloc (.cells #[.int .i64 (t : Int)] 3)) wr.heap.size 3 [.int .i64 (t : Int)] := RowAt.new (w := wr) #[.int .i64 (t : Int)] rfl
      have sA2 := sA.below hA2
      have sR2 := sR.below hA2
      have hbw := btrans hb hA2
      have C1 := hasfol_any (wr.alloc (.cells #[.int .i64 (t : Int)] 3)) ay cy (w.heap.size + 1) wr.heap.size g nodes.length cr R t (by omega) hn.out ys hy1.out (hty.out.below hbw) (by have := hy2.out; omega) (sR2.cell 0) (rT.cell 0) (hm.out.below hbw)
      have c2 : (wr.alloc (.cells #[.int .i64 (t : Int)] 3)).cell? ⟨w.heap.size, 2, none⟩ = some (.slice (some ⟨b1, o1, none⟩) nodes.length cn) := sA2.cell 2
      have c3 := bcell hbw q3
      have hjn : (j : Int) < (xs.length : Int) := by omega
      have hbl := World.block_lt_of_cell? wr _ cv
      simp only at hbl
      have hxl : (xs.length : Int) ≤ 17592186043904 := by have := hx2.out; omega
      replace hbw := Lib.hid hbw
      replace sA2 := Lib.hid sA2
      replace sR2 := Lib.hid sR2
      subst hat
      clear rT hA2 sA sR hb
      cases ho : ys.any (fun u => R t u.toNat) with
      | true =>
        rw [ho] at hst C1
        replace C1 := Lib.hid C1
        clear ho
        go_wp2_with fail
        refine C1.out.mono ?_
        rintro e w9 ⟨rfl, m, rfl⟩
        have sA3 := Lib.hid (sA2.out.drewN m)
        have sR3 := Lib.hid (sR2.out.drewN m)
        have hb3 := Lib.hid (bdrewN hbw.out m)
        clear C1 c2 c3 sA2 sR2 hbw
        go_wp2
        go_roundw
        case rel => exact ⟨j + 1, by omega, by go_num, rfl, sA3.out, sR3.out, hb3.out, hst⟩
        case measure => simp [intOf]; omega
      | false =>
        rw [ho] at hst C1
        replace C1 := Lib.hid C1
        have hr2 : Hid (r = false) := by
          show _ = _
          rw [hr.out]
          have h1 := hst.out
          cases hh : xs.all (fun t => ys.any fun u => R t.toNat u.toNat) with
          | false => rfl
          | true =>
            rw [List.all_eq_true] at hh
            have : (xs.take (j + 1)).all (fun t => ys.any fun u => R t.toNat u.toNat) = true := List.all_eq_true.2 fun z hz => hh z (List.mem_of_mem_take hz)
            rw [this] at h1
            cases h1
        obtain rfl := hr2.out
        clear ho hr hr2
        go_wp2_with fail
        refine C1.out.mono ?_
        rintro e w9 ⟨rfl, m, rfl⟩
        go_wp2
        go_ret
        exact ⟨rfl, bdrewN hbw.out m⟩
    · obtain rfl : j = xs.length := by omega
      have hr2 : Hid (r = true) := by
        have h1 := hall.out
        rw [List.take_length] at h1
        show _ = _
        rw [hr.out, h1]
      obtain rfl := hr2.out
      clear hr hr2
      go_wp2
      go_ret
      exact ⟨rfl, hb⟩
end Go.Proofs.Ytnllgigolfakpaa
