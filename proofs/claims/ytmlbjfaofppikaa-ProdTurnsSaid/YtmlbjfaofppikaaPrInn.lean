/- Whether a pair of a product is In. Conditions: a product that New made. -/
import Derived.Test.YtmlbjfaofppikaaPrNext
namespace Go.Proofs.Ytmlbjfaofppikaa
open Go.RowKit

theorem in_nil (w : World) (x : PP) : Calls Try.prog 16 #[.pointer none, ppv x] w fun e w' => e = .returned (.bool false) ∧ Below w.heap.size w w' := by
  obtain ⟨w1, hw1⟩ : ∃ w1, w.alloc (.cells #[.int .i64 x.node, .int .i64 x.state, .int .i64 x.turn] TPP) = w1 := ⟨_, rfl⟩
  have hb1 : Below w.heap.size w w1 := by rw [← hw1]; exact balloc (Below.refl _ _) _
  have hx : RowAt w1 w.heap.size TPP [.int .i64 x.node, .int .i64 x.state, .int .i64 x.turn] := by rw [← hw1]; exact RowAt.new #[.int .i64 x.node, .int .i64 x.state, .int .i64 x.turn] rfl
  have x0 : w1.cell? ⟨w.heap.size, 0, none⟩ = some (.int .i64 x.node) := hx.cell 0
  have x1 : w1.cell? ⟨w.heap.size, 1, none⟩ = some (.int .i64 x.state) := hx.cell 1
  have x2 : w1.cell? ⟨w.heap.size, 2, none⟩ = some (.int .i64 x.turn) := hx.cell 2
  have I := Lib.hid (is_nil w1 x)
  clear hx
  go_enter Try.func16, Try.ntmps16
  go_wp2_with fail
  refine I.out.mono ?_
  rintro e w2 ⟨rfl, hb2⟩
  go_wp2
  go_ret
  exact ⟨rfl, btrans hb1 hb2⟩
set_option maxHeartbeats 1000000 in
theorem in_any (w : World) (p : Nat) (G : GR) (sets : List (List Bool)) (A : AU) (h : PrAt w p G sets A) (x : PP) :
    Calls Try.prog 16 #[.pointer (some ⟨p, 0, none⟩), ppv x] w fun e w' => e = .returned (.bool (inP G sets A x)) ∧ Below w.heap.size w w' := by
  obtain ⟨w1, hw1⟩ : ∃ w1, w.alloc (.cells #[.int .i64 x.node, .int .i64 x.state, .int .i64 x.turn] TPP) = w1 := ⟨_, rfl⟩
  have hb1 : Below w.heap.size w w1 := by rw [← hw1]; exact balloc (Below.refl _ _) _
  have hx : RowAt w1 w.heap.size TPP [.int .i64 x.node, .int .i64 x.state, .int .i64 x.turn] := by rw [← hw1]; exact RowAt.new #[.int .i64 x.node, .int .i64 x.state, .int .i64 x.turn] rfl
  have x0 : w1.cell? ⟨w.heap.size, 0, none⟩ = some (.int .i64 x.node) := hx.cell 0
  have x1 : w1.cell? ⟨w.heap.size, 1, none⟩ = some (.int .i64 x.state) := hx.cell 1
  have x2 : w1.cell? ⟨w.heap.size, 2, none⟩ = some (.int .i64 x.turn) := hx.cell 2
  have hP := Lib.hid (fun wr (hb : Below w.heap.size w wr) => h.below hb)
  have I := Lib.hid (pis_any w1 p G sets A (h.below hb1) x)
  cases hi : isP sets A x with
  | false =>
    have hr : Hid (inP G sets A x = false) := by show _ = _; unfold inP; rw [hi]; rfl
    rw [hi] at I
    rw [hr.out]
    clear hx hi hr h
    go_enter Try.func16, Try.ntmps16
    go_wp2_with fail
    refine I.out.mono ?_
    rintro e w2 ⟨rfl, hb2⟩
    go_wp2
    go_ret
    exact ⟨rfl, btrans hb1 hb2⟩
  | true =>
    obtain ⟨k, t, hxs, hxt, hk, htm⟩ := isP_range hi
    have hr : Hid (inP G sets A x = (decide (allS sets A = 0) || (decide (t = 0) && ofP G sets A x))) := by
      show _ = _
      unfold inP
      rw [hi, hxt, Bool.true_and]
      congr 2
      simp
    obtain ⟨m, hm⟩ : ∃ m, m = allS sets A := ⟨_, rfl⟩
    have O := Lib.hid (fun wr (hb : Below w.heap.size w wr) (hm0 : 0 < m) => pof_any wr p G sets A (hP.out wr hb) x k t hk hxs hxt (by rw [← hm]; rw [← hm] at htm; omega))
    have hmc : Hid (∀ wr, Below w.heap.size w wr → wr.cell? ⟨p, 4, none⟩ = some (.int .i64 m)) := fun wr hb => by
      obtain ⟨f, ai, an, ci, cn, h⟩ := hP.out wr hb
      rw [hm]
      exact h.row.cell 4
    rw [← hm] at hr
    obtain ⟨r, hr'⟩ : ∃ r, r = ofP G sets A x := ⟨_, rfl⟩
    rw [← hr'] at hr O
    rw [hi] at I
    rw [hr.out]
    have hx' := Lib.hid hx
    obtain ⟨xn, xs, xt⟩ := x
    simp only at hxs hxt x0 x1 x2
    subst hxs hxt
    clear hx hi h hm hr' hr hk htm
    by_cases h0 : m = 0
    · subst h0
      rw [show (decide ((0 : Nat) = 0) || (decide (t = 0) && r)) = true from rfl]
      go_enter Try.func16, Try.ntmps16
      go_wp2_with fail
      refine I.out.mono ?_
      rintro e w2 ⟨rfl, hb2⟩
      have y3 := hmc.out w2 (btrans hb1 hb2)
      have hbw2 := Lib.hid (btrans hb1 hb2)
      clear hb2 x0 x1 x2
      go_wp2
      go_ret
      exact ⟨rfl, hbw2.out⟩
    · have h0b : ((m : Int) == 0) = false := by simp; exact h0
      rw [decide_eq_false h0, Bool.false_or]
      by_cases ht : t = 0
      · have htb : ((t : Int) == 0) = true := by simp; exact ht
        rw [decide_eq_true ht, Bool.true_and]
        clear ht
        go_enter Try.func16, Try.ntmps16
        go_wp2_with fail
        refine I.out.mono ?_
        rintro e w2 ⟨rfl, hb2⟩
        have y3 := hmc.out w2 (btrans hb1 hb2)
        have hbw2 := Lib.hid (btrans hb1 hb2)
        have hx2 := hx'.out.below hb2
        have y0 : w2.cell? ⟨w.heap.size, 0, none⟩ = some (.int .i64 xn) := hx2.cell 0
        have y1 : w2.cell? ⟨w.heap.size, 1, none⟩ = some (.int .i64 k) := hx2.cell 1
        have y2 : w2.cell? ⟨w.heap.size, 2, none⟩ = some (.int .i64 t) := hx2.cell 2
        have O2 := Lib.hid (O.out w2 hbw2.out (by omega))
        clear hb2 x0 x1 x2 hx2
        go_wp2_with fail
        refine O2.out.mono ?_
        rintro e w3 ⟨rfl, hb3⟩
        go_wp2
        go_ret
        exact ⟨rfl, btrans hbw2.out hb3⟩
      · have htb : ((t : Int) == 0) = false := by simp; exact ht
        rw [decide_eq_false ht, Bool.false_and]
        go_enter Try.func16, Try.ntmps16
        go_wp2_with fail
        refine I.out.mono ?_
        rintro e w2 ⟨rfl, hb2⟩
        have y3 := hmc.out w2 (btrans hb1 hb2)
        have hbw2 := Lib.hid (btrans hb1 hb2)
        have hx2 := hx'.out.below hb2
        have y2 : w2.cell? ⟨w.heap.size, 2, none⟩ = some (.int .i64 t) := hx2.cell 2
        clear hb2 x0 x1 x2 hx2
        go_wp2
        go_ret
        exact ⟨rfl, hbw2.out⟩
end Go.Proofs.Ytmlbjfaofppikaa
