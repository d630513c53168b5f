/- The document's can. Conditions: the bounds of an automaton that may be. -/
import Derived.Test.YtnllgigolfakpaaSimRBits
import Derived.Test.YtnllgigolfakpaaSimRows
import Derived.Test.YtnllgigolfakpaaSimIsSt
import Derived.BigRegion
import Derived.Deep.DeepCutAuto
namespace Go.Proofs.Ytnllgigolfakpaa
open Go.RowKit

def Square (n : Nat) (L : List (List Bool)) : Prop := L.length = n ∧ ∀ l ∈ L, l.length = n
theorem sq_get {n : Nat} {L : List (List Bool)} (h : Square n L) {i : Nat} (hi : i < n) : L[i]? = some (L.getD i []) ∧ (L.getD i []).length = n := by
  have hlt : i < L.length := by rw [h.1]; exact hi
  rw [List.getD_eq_getElem?_getD, List.getElem?_eq_getElem hlt]
  exact ⟨rfl, h.2 _ (List.getElem_mem hlt)⟩
/-- one cell of rows -/
theorem RowsAt.cellAt {w : World} {a : Option Addr} {L : List (List Bool)} {n : Nat} (h : RowsAt w a L) (hs : Square n L) {i k : Nat} (hi : i < n) (hk : k < n) :
    ∃ b off ai ci b2 o2, a = some ⟨b, off, none⟩ ∧ b < w.heap.size ∧ w.cell? ⟨b, off + i, none⟩ = some (.slice ai n ci) ∧ ai = some ⟨b2, o2, none⟩ ∧ b2 < w.heap.size ∧ w.cell? ⟨b2, o2 + k, none⟩ = some (.bool (fnOf L i k)) := by
  have hlt : i < L.length := by rw [hs.1]; exact hi
  obtain ⟨b, off, ai, ci, h1, h2, h3⟩ := h.at i hlt
  have hl : L[i].length = n := hs.2 _ (List.getElem_mem hlt)
  obtain ⟨b2, o2, h4, h5⟩ := h3.at k (by omega)
  rw [hl] at h2
  refine ⟨b, off, ai, ci, b2, o2, h1, World.block_lt_of_cell? w _ h2, h2, h4, World.block_lt_of_cell? w _ h5, ?_⟩
  rw [h5]
  unfold fnOf
  rw [List.getD_eq_getElem?_getD (l := L), List.getElem?_eq_getElem hlt]
  simp only [Option.getD_some]
  rw [List.getD_eq_getElem?_getD, List.getElem?_eq_getElem (by omega)]
  rfl
theorem and_neq {a b c : Nat} (ha : a < 18446744073709551616) (hb : b < 18446744073709551616) : (bits .and .u64 (a : Int) (b : Int) != (c : Int)) = !(a &&& b == c) := by
  rw [bits_and_u64_nat _ _ ha hb]
  by_cases h : a &&& b = c
  · subst h; simp
  · have : ¬ ((a &&& b : Nat) : Int) = (c : Int) := by omega
    have e : (a &&& b == c) = false := by simpa using h
    rw [e]
    simpa using this

abbrev TNodes : Nat := 23
set_option maxRecDepth 10000 in
set_option maxHeartbeats 4000000 in
theorem rcan_any (w : World) (ai an : Option Addr) (ni ci cn : Nat) (A : AU) (h : NodesAt w an A.nodes) (ok : AuOk A) (hc : chk A = 0) (ar : Option Addr) (cr : Nat) (L : List (List Bool)) (hL : Square A.nodes.length L) (hr : RowsAt w ar L) (i k : Nat) (hi : i < A.nodes.length) (hk : k < A.nodes.length) :
    Calls Try.prog 25 #[.agg #[.int .i64 A.sets, .slice ai ni ci, .slice an A.nodes.length cn], .slice ar A.nodes.length cr, .int .i64 (i : Int), .int .i64 (k : Int)] w fun e w' => e = .returned (.bool (aloB (sN A) (nd A i) (nd A k) && folB (fnOf L) (nd A i) (nd A k))) ∧ Below w.heap.size w w' := by
  obtain ⟨hn, hs0, hs16, _⟩ := chk_good hc
  have hx1 := nd_to hc hi
  have hy1 := nd_to hc hk
  have hx2 := ok.to (List.getElem_mem hi)
  have hy2 := ok.to (List.getElem_mem hk)
  have ox := ok.nodes _ (List.getElem_mem hi)
  have oy := ok.nodes _ (List.getElem_mem hk)
  rw [nd_get hi] at hx1 ⊢
  rw [nd_get hk] at hy1 ⊢
  obtain ⟨b1, o1, hab, p0, p1, p2, ax, cx, p3, htx⟩ := h.at i hi
  obtain ⟨b2, o2, hab2, q0, q1, q2, ay, cy, q3, hty⟩ := h.at k hk
  rw [hab] at hab2
  cases hab2
  obtain ⟨s, hs⟩ : ∃ s, sN A = s := ⟨_, rfl⟩
  have hsA : A.sets = (s : Int) := by rw [← hs]; unfold sN; omega
  rw [hs]
  have hs16' : s ≤ 16 := by omega
  obtain ⟨m, hm⟩ : ∃ m, m = 2 ^ s - 1 := ⟨_, rfl⟩
  have hp : 2 ^ s ≤ 2 ^ 16 := Nat.pow_le_pow_right (by omega) hs16'
  have BI := fun w => rbits_any w s m hs16' hm
  obtain ⟨st, init, nodes⟩ := A
  simp only at hn hx1 hy1 hx2 hy2 hi hk hL p0 p1 p2 p3 htx q0 q1 q2 q3 hty hab ox oy hsA ⊢
  subst hsA
  generalize nodes[i] = x at hx1 hx2 p0 p1 p2 p3 htx ox ⊢
  generalize nodes[k] = y at hy1 hy2 q0 q1 q2 q3 hty oy ⊢
  obtain ⟨xn, xb, xi, xs⟩ := x
  obtain ⟨yn, yb, yi, ys⟩ := y
  simp only at hx1 hx2 p0 p1 p2 p3 htx ox hy1 hy2 q0 q1 q2 q3 hty oy ⊢
  obtain ⟨ox0, ox1, ox2, _⟩ := ox
  obtain ⟨oy0, oy1, oy2, _⟩ := oy
  have t1 := and_neq (a := yn) (b := xn) (c := yn) oy0 ox0
  have t2 := and_neq (a := yb) (b := xb) (c := yb) oy1 ox1
  have hm64 : m < 18446744073709551616 := by omega
  have e3 := bits_and_u64_nat xi yi ox2 oy2
  have e4 := bits_and_u64_nat xi m ox2 hm64
  have t3 := and_neq (a := xi &&& yi) (b := m) (c := xi &&& m) (Nat.lt_of_le_of_lt Nat.and_le_left ox2) hm64
  have hres : (aloB s ⟨xn, xb, xi, xs⟩ ⟨yn, yb, yi, ys⟩) = ((yn &&& xn == yn) && ((yb &&& xb == yb) && ((xi &&& yi) &&& m == xi &&& m))) := by unfold aloB; rw [hm]
  generalize (yn &&& xn == yn) = d1 at t1 hres
  generalize (yb &&& xb == yb) = d2 at t2 hres
  generalize ((xi &&& yi) &&& m == xi &&& m) = d3 at t3 hres
  rw [hres]
  clear hres hs
  obtain ⟨r, hr0⟩ : ∃ r, r = folB (fnOf L) ⟨xn, xb, xi, xs⟩ ⟨yn, yb, yi, ys⟩ := ⟨_, rfl⟩
  rw [← hr0]
  have hrr : Hid (r = xs.all fun t => ys.any fun u => fnOf L t.toNat u.toNat) := hr0
  clear hr0
  have hin : (i : Int) < (nodes.length : Int) := by omega
  have hkn : (k : Int) < (nodes.length : Int) := by omega
  obtain ⟨w1, hw1⟩ : ∃ w1, w1 = w.alloc (.cells #[.int .i64 (s : Int), .slice ai ni ci, .slice an nodes.length cn] AUT) := ⟨_, rfl⟩
  have hb1 : Below w.heap.size w w1 := by rw [hw1]; exact balloc (Below.refl _ _) _
  have rA : RowAt w1 w.heap.size AUT [.int .i64 (s : Int), .slice ai ni ci, .slice an nodes.length cn] := by rw [hw1]; exact RowAt.new (w := w) #[.int .i64 (s : Int), .slice ai ni ci, .slice an nodes.length cn] rfl
  have c2 : w1.cell? ⟨w.heap.size, 2, none⟩ = some (.slice an nodes.length cn) := rA.cell 2
  have P0 := bcell hb1 p0
  have P1 := bcell hb1 p1
  have P2 := bcell hb1 p2
  have P3 := bcell hb1 p3
  have Q0 := bcell hb1 q0
  have Q1 := bcell hb1 q1
  have Q2 := bcell hb1 q2
  have Q3 := bcell hb1 q3
  have hlt1 := rA.lt
  have yP0 : ∀ o, (w1.alloc o).cell? ⟨b1, o1 + i * 4, none⟩ = some (.int .u64 (xn : Int)) := fun o => bcell (balloc (Below.refl _ _) o) P0
  have zP0 : ∀ o o2, ((w1.alloc o).alloc o2).cell? ⟨b1, o1 + i * 4, none⟩ = some (.int .u64 (xn : Int)) := fun o o2 => bcell (balloc (balloc (Below.refl _ _) o) o2) P0
  have yP1 : ∀ o, (w1.alloc o).cell? ⟨b1, o1 + i * 4 + 1, none⟩ = some (.int .u64 (xb : Int)) := fun o => bcell (balloc (Below.refl _ _) o) P1
  have zP1 : ∀ o o2, ((w1.alloc o).alloc o2).cell? ⟨b1, o1 + i * 4 + 1, none⟩ = some (.int .u64 (xb : Int)) := fun o o2 => bcell (balloc (balloc (Below.refl _ _) o) o2) P1
  have yP2 : ∀ o, (w1.alloc o).cell? ⟨b1, o1 + i * 4 + 2, none⟩ = some (.int .u64 (xi : Int)) := fun o => bcell (balloc (Below.refl _ _) o) P2
  have zP2 : ∀ o o2, ((w1.alloc o).alloc o2).cell? ⟨b1, o1 + i * 4 + 2, none⟩ = some (.int .u64 (xi : Int)) := fun o o2 => bcell (balloc (balloc (Below.refl _ _) o) o2) P2
  have yP3 : ∀ o, (w1.alloc o).cell? ⟨b1, o1 + i * 4 + 3, none⟩ = some (.slice ax xs.length cx) := fun o => bcell (balloc (Below.refl _ _) o) P3
  have zP3 : ∀ o o2, ((w1.alloc o).alloc o2).cell? ⟨b1, o1 + i * 4 + 3, none⟩ = some (.slice ax xs.length cx) := fun o o2 => bcell (balloc (balloc (Below.refl _ _) o) o2) P3
  have yQ0 : ∀ o, (w1.alloc o).cell? ⟨b1, o1 + k * 4, none⟩ = some (.int .u64 (yn : Int)) := fun o => bcell (balloc (Below.refl _ _) o) Q0
  have zQ0 : ∀ o o2, ((w1.alloc o).alloc o2).cell? ⟨b1, o1 + k * 4, none⟩ = some (.int .u64 (yn : Int)) := fun o o2 => bcell (balloc (balloc (Below.refl _ _) o) o2) Q0
  have yQ1 : ∀ o, (w1.alloc o).cell? ⟨b1, o1 + k * 4 + 1, none⟩ = some (.int .u64 (yb : Int)) := fun o => bcell (balloc (Below.refl _ _) o) Q1
  have zQ1 : ∀ o o2, ((w1.alloc o).alloc o2).cell? ⟨b1, o1 + k * 4 + 1, none⟩ = some (.int .u64 (yb : Int)) := fun o o2 => bcell (balloc (balloc (Below.refl _ _) o) o2) Q1
  have yQ2 : ∀ o, (w1.alloc o).cell? ⟨b1, o1 + k * 4 + 2, none⟩ = some (.int .u64 (yi : Int)) := fun o => bcell (balloc (Below.refl _ _) o) Q2
  have zQ2 : ∀ o o2, ((w1.alloc o).alloc o2).cell? ⟨b1, o1 + k * 4 + 2, none⟩ = some (.int .u64 (yi : Int)) := fun o o2 => bcell (balloc (balloc (Below.refl _ _) o) o2) Q2
  have yQ3 : ∀ o, (w1.alloc o).cell? ⟨b1, o1 + k * 4 + 3, none⟩ = some (.slice ay ys.length cy) := fun o => bcell (balloc (Below.refl _ _) o) Q3
  have zQ3 : ∀ o o2, ((w1.alloc o).alloc o2).cell? ⟨b1, o1 + k * 4 + 3, none⟩ = some (.slice ay ys.length cy) := fun o o2 => bcell (balloc (balloc (Below.refl _ _) o) o2) Q3
  have rz1 : RowAt ((w1.alloc (.cells #[.int .u64 0, .int .u64 0, .int .u64 0, .slice none 0 0] TNd)).alloc (.cells #[.int .u64 0, .int .u64 0, .int .u64 0, .slice none 0 0] TNd)) w1.heap.size TNd [.int .u64 0, .int .u64 0, .int .u64 0, .slice none 0 0] := (RowAt.new (w := w1) #[.int .u64 0, .int .u64 0, .int .u64 0, .slice none 0 0] rfl).alloc _
  have rz2 : RowAt ((w1.alloc (.cells #[.int .u64 0, .int .u64 0, .int .u64 0, .slice none 0 0] TNd)).alloc (.cells #[.int .u64 0, .int .u64 0, .int .u64 0, .slice none 0 0] TNd)) (w1.heap.size + 1) TNd [.int .u64 0, .int .u64 0, .int .u64 0, .slice none 0 0] := RowAt.new #[.int .u64 0, .int .u64 0, .int .u64 0, .slice none 0 0] (by simp)
  have f0 := rz1.free 0
  have fu0 := rz1.cell 0
  have f1 := rz1.free 1
  have fu1 := rz1.cell 1
  have f2 := rz1.free 2
  have fu2 := rz1.cell 2
  have f3 := rz1.free 3
  have fu3 := rz1.cell 3
  have g0 := rz2.free 0
  have gu0 := rz2.cell 0
  have g1 := rz2.free 1
  have gu1 := rz2.cell 1
  have g2 := rz2.free 2
  have gu2 := rz2.cell 2
  have g3 := rz2.free 3
  have gu3 := rz2.cell 3
  replace rz1 := Lib.hid rz1
  replace rz2 := Lib.hid rz2
  replace hx1 := Lib.hid hx1
  replace hy1 := Lib.hid hy1
  replace hx2 := Lib.hid hx2
  replace hy2 := Lib.hid hy2
  replace hn := Lib.hid hn
  replace hb1 := Lib.hid hb1
  replace rA := Lib.hid rA
  replace htx := Lib.hid htx
  replace hty := Lib.hid hty
  replace hr := Lib.hid hr
  replace hL := Lib.hid hL
  replace BI := Lib.hid BI
  replace hm := Lib.hid hm
  replace t1 := Lib.hid t1
  replace t2 := Lib.hid t2
  replace t3 := Lib.hid t3
  replace e3 := Lib.hid e3
  replace e4 := Lib.hid e4
  subst hab
  clear p0 p1 p2 p3 q0 q1 q2 q3 h ok hc hi hk hp
  go_enter Try.func25, Try.ntmps25
  go_wp2
  rw [← hw1]
  clear hw1
  go_cut [9, 10] (fun p q wx => ∃ B9 B10 : Nat, p = .pointer (some ⟨B9, 0, none⟩) ∧ q = .pointer (some ⟨B10, 0, none⟩) ∧ RowAt wx B9 TNd [.int .u64 (xn : Int), .int .u64 (xb : Int), .int .u64 (xi : Int), .slice ax xs.length cx] ∧ RowAt wx B10 TNd [.int .u64 (yn : Int), .int .u64 (yb : Int), .int .u64 (yi : Int), .slice ay ys.length cy] ∧ Below w1.heap.size w1 wx)
  case first =>
    go_region
    · have n9 : RowAt (((w1.alloc (.cells #[.int .u64 (xn : Int), .int .u64 (xb : Int), .int .u64 (xi : Int), .slice ax xs.length cx] TNd)).alloc (.cells #[.int .u64 (yn : Int), .int .u64 (yb : Int), .int .u64 (yi : Int), .slice ay ys.length cy] TNd)).drew) w1.heap.size TNd [.int .u64 (xn : Int), .int .u64 (xb : Int), .int .u64 (xi : Int), .slice ax xs.length cx] := RowAt.below ((RowAt.new (w := w1) #[.int .u64 (xn : Int), .int .u64 (xb : Int), .int .u64 (xi : Int), .slice ax xs.length cx] rfl).alloc _) (Below.refl _ _).drew
      have n10 : RowAt (((w1.alloc (.cells #[.int .u64 (xn : Int), .int .u64 (xb : Int), .int .u64 (xi : Int), .slice ax xs.length cx] TNd)).alloc (.cells #[.int .u64 (yn : Int), .int .u64 (yb : Int), .int .u64 (yi : Int), .slice ay ys.length cy] TNd)).drew) (w1.heap.size + 1) TNd [.int .u64 (yn : Int), .int .u64 (yb : Int), .int .u64 (yi : Int), .slice ay ys.length cy] := RowAt.below (RowAt.new #[.int .u64 (yn : Int), .int .u64 (yb : Int), .int .u64 (yi : Int), .slice ay ys.length cy] (by simp)) (Below.refl _ _).drew
      go_wp2_with fail
      go_meet
      exact ⟨_, _, rfl, rfl, n9, n10, (balloc (balloc (Below.refl _ _) _) _).drew⟩
    · have n10 : RowAt (((w1.alloc (.cells #[.int .u64 (yn : Int), .int .u64 (yb : Int), .int .u64 (yi : Int), .slice ay ys.length cy] TNd)).alloc (.cells #[.int .u64 (xn : Int), .int .u64 (xb : Int), .int .u64 (xi : Int), .slice ax xs.length cx] TNd)).drew) w1.heap.size TNd [.int .u64 (yn : Int), .int .u64 (yb : Int), .int .u64 (yi : Int), .slice ay ys.length cy] := RowAt.below ((RowAt.new (w := w1) #[.int .u64 (yn : Int), .int .u64 (yb : Int), .int .u64 (yi : Int), .slice ay ys.length cy] rfl).alloc _) (Below.refl _ _).drew
      have n9 : RowAt (((w1.alloc (.cells #[.int .u64 (yn : Int), .int .u64 (yb : Int), .int .u64 (yi : Int), .slice ay ys.length cy] TNd)).alloc (.cells #[.int .u64 (xn : Int), .int .u64 (xb : Int), .int .u64 (xi : Int), .slice ax xs.length cx] TNd)).drew) (w1.heap.size + 1) TNd [.int .u64 (xn : Int), .int .u64 (xb : Int), .int .u64 (xi : Int), .slice ax xs.length cx] := RowAt.below (RowAt.new #[.int .u64 (xn : Int), .int .u64 (xb : Int), .int .u64 (xi : Int), .slice ax xs.length cx] (by simp)) (Below.refl _ _).drew
      go_wp2_with fail
      go_meet
      exact ⟨_, _, rfl, rfl, n9, n10, (balloc (balloc (Below.refl _ _) _) _).drew⟩
  case rest =>
    obtain ⟨B9, B10, rfl, rfl, n9, n10, hbc⟩ := hcut
    clear f0 f1 f2 f3 g0 g1 g2 g3 fu0 fu1 fu2 fu3 gu0 gu1 gu2 gu3 yP0 yP1 yP2 yP3 yQ0 yQ1 yQ2 yQ3 zP0 zP1 zP2 zP3 zQ0 zQ1 zQ2 zQ3 P0 P1 P2 P3 Q0 Q1 Q2 Q3 c2 rz1 rz2
    have hbw := Lib.hid (btrans hb1.out hbc)
    have rA2 := rA.out.below hbc
    have a0 : wc.cell? ⟨w.heap.size, 0, none⟩ = some (.int .i64 (s : Int)) := rA2.cell 0
    have x0 : wc.cell? ⟨B9, 0, none⟩ = some (.int .u64 (xn : Int)) := n9.cell 0
    have x1 : wc.cell? ⟨B9, 1, none⟩ = some (.int .u64 (xb : Int)) := n9.cell 1
    have x2 : wc.cell? ⟨B9, 2, none⟩ = some (.int .u64 (xi : Int)) := n9.cell 2
    have x3 : wc.cell? ⟨B9, 3, none⟩ = some (.slice ax xs.length cx) := n9.cell 3
    have y0 : wc.cell? ⟨B10, 0, none⟩ = some (.int .u64 (yn : Int)) := n10.cell 0
    have y1 : wc.cell? ⟨B10, 1, none⟩ = some (.int .u64 (yb : Int)) := n10.cell 1
    have y2 : wc.cell? ⟨B10, 2, none⟩ = some (.int .u64 (yi : Int)) := n10.cell 2
    have y3 : wc.cell? ⟨B10, 3, none⟩ = some (.slice ay ys.length cy) := n10.cell 3
    replace rA2 := Lib.hid rA2
    replace n9 := Lib.hid n9
    replace n10 := Lib.hid n10
    clear hbc hlt1
    cases d1 with
    | false =>
      have t1' := t1.out
      simp only [Bool.not_false] at t1'
      go_wp2
      go_quiet (fail)
      go_wp2
      go_ret
      exact ⟨rfl, bdrewN hbw.out _⟩
    | true =>
      have t1' := t1.out
      simp only [Bool.not_true] at t1'
      cases d2 with
      | false =>
        have t2' := t2.out
        simp only [Bool.not_false] at t2'
        go_wp2
        go_quiet (fail)
        go_wp2
        go_ret
        exact ⟨rfl, bdrewN hbw.out _⟩
      | true =>
        have t2' := t2.out
        simp only [Bool.not_true] at t2'
        have e3' := e3.out
        have e4' := e4.out
        cases d3 with
        | false =>
          have t3' := t3.out
          simp only [Bool.not_false] at t3'
          go_wp2
          go_quiet ((go_at_call 35; exact Calls.quiet_of_same ((BI.out _).mono fun _ _ h => ⟨h.1, h.2.symm⟩)))
          go_wp2
          go_ret
          exact ⟨rfl, bdrewN hbw.out _⟩
        | true =>
          have t3' := t3.out
          simp only [Bool.not_true] at t3'
          go_wp2
          go_quiet ((go_at_call 35; exact Calls.quiet_of_same ((BI.out _).mono fun _ _ h => ⟨h.1, h.2.symm⟩)))
          clear t1' t2' t3' e3' e4' BI t1 t2 t3 e3 e4
          generalize hwd : wc.drewN _ = wd
          have hbw2 : Below w.heap.size w wd := by rw [← hwd]; exact bdrewN hbw.out _
          have nx : RowAt wd B9 TNd [.int .u64 (xn : Int), .int .u64 (xb : Int), .int .u64 (xi : Int), .slice ax xs.length cx] := by rw [← hwd]; exact n9.out
          have ny : RowAt wd B10 TNd [.int .u64 (yn : Int), .int .u64 (yb : Int), .int .u64 (yi : Int), .slice ay ys.length cy] := by rw [← hwd]; exact n10.out
          have tx := Lib.hid (htx.out.below hbw2)
          have ty := Lib.hid (hty.out.below hbw2)
          have rr := Lib.hid (hr.out.below hbw2)
          have hxl : (xs.length : Int) ≤ 17592186043904 := by have := hx2.out; omega
          have hyl : (ys.length : Int) ≤ 17592186043904 := by have := hy2.out; omega
          clear hwd a0 x0 x1 x2 x3 y0 y1 y2 y3 n9 n10 hbw rA2 htx hty hr
          replace hbw2 := Lib.hid hbw2
          replace nx := Lib.hid nx
          replace ny := Lib.hid ny
          go_wp2
          go_loopw [8, 11] (fun bv iv wr => ∃ j q : Nat, j ≤ xs.length ∧ iv = .int .i64 j ∧ bv = .bool false ∧ wr = wd.drewN q ∧ Hid ((xs.take j).all (fun t => ys.any fun u => fnOf L t.toNat u.toNat) = true)) (fun _ iv _ => xs.length - (intOf iv).toNat)
          case atStart => exact ⟨0, 0, Nat.zero_le _, rfl, rfl, rfl, by simp [Hid]⟩
          case round =>
            obtain ⟨j, q, hj, rfl, rfl, rfl, hall⟩ := hrel
            have x3 : wd.cell? ⟨B9, 3, none⟩ = some (.slice ax xs.length cx) := nx.out.cell 3
            have y3 : wd.cell? ⟨B10, 3, none⟩ = some (.slice ay ys.length cy) := ny.out.cell 3
            by_cases hlt : j < xs.length
            · obtain ⟨bt, ot, v, hat, cv, hv⟩ := tx.out.at j hlt
              have hv2 : v = xs[j] := by rw [hv.out, List.getD_eq_getElem?_getD, List.getElem?_eq_getElem hlt]; rfl
              obtain ⟨h0x, hxn⟩ := hx1.out v (by rw [hv2]; exact List.getElem_mem hlt)
              have hst : Hid ((xs.take (j + 1)).all (fun t => ys.any fun u => fnOf L t.toNat u.toNat) = ys.any (fun u => fnOf L v.toNat u.toNat)) := by
                show _ = _
                rw [List.take_add_one, List.getElem?_eq_getElem hlt, Option.toList_some, List.all_append, hall.out, ← hv2]
                simp
              clear hv2 hv
              obtain ⟨t, rfl⟩ := Int.eq_ofNat_of_zero_le h0x
              rw [Int.toNat_natCast] at hst
              have hjn : (j : Int) < (xs.length : Int) := by omega
              have htn : t < nodes.length := by omega
              subst hat
              go_wp2
              go_loopw [12, 13] (fun bv lv wr => ∃ l q : Nat, l ≤ ys.length ∧ lv = .int .i64 l ∧ wr = wd.drewN q ∧ ∃ b : Bool, bv = .bool b ∧ Hid (b = (ys.take l).any (fun u => fnOf L t u.toNat))) (fun _ lv _ => ys.length - (intOf lv).toNat)
              case atStart => exact ⟨0, q, Nat.zero_le _, rfl, rfl, false, rfl, by simp [Hid]⟩
              case round =>
                obtain ⟨l, q, hl, rfl, rfl, b, rfl, hb⟩ := hrel
                by_cases hltl : l < ys.length
                · have hst2 : Hid ((ys.take (l + 1)).any (fun u => fnOf L t u.toNat) = (b || fnOf L t ys[l].toNat)) := by
                    show _ = _
                    rw [List.take_add_one, List.getElem?_eq_getElem hltl, Option.toList_some, List.any_append, ← hb.out]
                    simp
                  cases b with
                  | true =>
                    have hst3 : Hid (true = (ys.take (l + 1)).any (fun u => fnOf L t u.toNat)) := by show _ = _; rw [hst2.out]; rfl
                    clear hst2 hb
                    go_wp2
                    go_quiet (fail)
                    go_wp2
                    go_roundw
                    case rel => exact ⟨l + 1, _, by omega, by go_num, by first | rfl | exact World.drewN_drewN _ _ _, true, rfl, hst3⟩
                    case measure => simp [intOf]; omega
                  | false =>
                    obtain ⟨bu, ou, v, hau, cu, hv⟩ := ty.out.at l hltl
                    have hv2 : v = ys[l] := by rw [hv.out, List.getD_eq_getElem?_getD, List.getElem?_eq_getElem hltl]; rfl
                    obtain ⟨h0y, hyn⟩ := hy1.out v (by rw [hv2]; exact List.getElem_mem hltl)
                    rw [← hv2] at hst2
                    clear hv2 hv hb
                    obtain ⟨u, rfl⟩ := Int.eq_ofNat_of_zero_le h0y
                    rw [Int.toNat_natCast] at hst2
                    obtain ⟨rb, ro, rai, rci, rb2, ro2, hra, _, rc1, hrai, _, rc2⟩ := rr.out.cellAt hL.out htn (show u < nodes.length by omega)
                    generalize fnOf L t u = fb at rc2 hst2
                    have hst3 : Hid (fb = (ys.take (l + 1)).any (fun u => fnOf L t u.toNat)) := by show _ = _; rw [hst2.out]; rfl
                    have hln : (l : Int) < (ys.length : Int) := by omega
                    subst hau
                    subst hra
                    subst hrai
                    clear hst2
                    go_wp2
                    go_quiet (fail)
                    go_wp2
                    go_roundw
                    case rel => exact ⟨l + 1, _, by omega, by go_num, by first | rfl | exact World.drewN_drewN _ _ _, fb, rfl, hst3⟩
                    case measure => simp [intOf]; omega
                · obtain rfl : l = ys.length := by omega
                  have hb2 : Hid (b = ys.any (fun u => fnOf L t u.toNat)) := by have := hb.out; rwa [List.take_length] at this
                  rw [← hb2.out] at hst
                  clear hb hb2
                  cases b with
                  | true =>
                    go_wp2
                    go_roundw
                    case rel => exact ⟨j + 1, _, by omega, by go_num, rfl, by first | rfl | exact World.drewN_drewN _ _ _, hst⟩
                    case measure => simp [intOf]; omega
                  | false =>
                    have hr2 : Hid (r = false) := by
                      show _ = _
                      rw [hrr.out]
                      have h1 := hst.out
                      cases hh : xs.all (fun t => ys.any fun u => fnOf L t.toNat u.toNat) with
                      | false => rfl
                      | true =>
                        rw [List.all_eq_true] at hh
                        have : (xs.take (j + 1)).all (fun t => ys.any fun u => fnOf L t.toNat u.toNat) = true := List.all_eq_true.2 fun z hz => hh z (List.mem_of_mem_take hz)
                        rw [this] at h1
                        cases h1
                    obtain rfl := hr2.out
                    clear hrr hr2
                    go_wp2
                    go_ret
                    exact ⟨rfl, bdrewN hbw2.out _⟩
            · obtain rfl : j = xs.length := by omega
              have hr2 : Hid (r = true) := by
                have h1 := hall.out
                rw [List.take_length] at h1
                show _ = _
                rw [hrr.out, h1]
              obtain rfl := hr2.out
              clear hrr hr2
              go_wp2
              go_ret
              exact ⟨rfl, bdrewN hbw2.out _⟩
end Go.Proofs.Ytnllgigolfakpaa
