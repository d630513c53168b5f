/- The document's In. Conditions: a product that the document's New tells. -/
import Derived.Test.YtmlbjfaofppikaaPrSrc
namespace Go.Proofs.Ytmlbjfaofppikaa
open Go.RowKit

set_option maxHeartbeats 2000000 in
theorem rin_any (w : World) (X : RX) (G : GR) (sets : List (List Bool)) (A : AU) (h : RpA w X G sets A) (x : PP) :
    Calls Try.prog 22 #[rpv X G sets A, ppv x] w fun e w' => e = .returned (.bool (inP G sets A x)) ∧ Below w.heap.size w w' := by
  have r1 := RowAt.new (w := w) (T := TRP) #[.slice X.ai G.init.length X.ci, .slice X.ae G.edges.length X.ce, .slice X.al G.labels.length X.cl, .slice X.as_ sets.length X.cs, .int .i64 A.sets, .slice X.bi A.init.length X.di, .slice X.bn A.nodes.length X.dn] rfl
  have r2 := RowAt.new (w := w.alloc (.cells #[.slice X.ai G.init.length X.ci, .slice X.ae G.edges.length X.ce, .slice X.al G.labels.length X.cl, .slice X.as_ sets.length X.cs, .int .i64 A.sets, .slice X.bi A.init.length X.di, .slice X.bn A.nodes.length X.dn] TRP)) (T := TRq) #[.int .i64 x.node, .int .i64 x.state, .int .i64 x.turn] rfl
  have r1' := r1.alloc (.cells #[.int .i64 x.node, .int .i64 x.state, .int .i64 x.turn] TRq)
  have hb2 := balloc (balloc (Below.refl w.heap.size w) (.cells #[.slice X.ai G.init.length X.ci, .slice X.ae G.edges.length X.ce, .slice X.al G.labels.length X.cl, .slice X.as_ sets.length X.cs, .int .i64 A.sets, .slice X.bi A.init.length X.di, .slice X.bn A.nodes.length X.dn] TRP)) (.cells #[.int .i64 x.node, .int .i64 x.state, .int .i64 x.turn] TRq)
  have hz1 : (w.alloc (.cells #[.slice X.ai G.init.length X.ci, .slice X.ae G.edges.length X.ce, .slice X.al G.labels.length X.cl, .slice X.as_ sets.length X.cs, .int .i64 A.sets, .slice X.bi A.init.length X.di, .slice X.bn A.nodes.length X.dn] TRP)).heap.size = w.heap.size + 1 := by simp
  rw [hz1] at r2
  have H := Lib.hid (fun wr (hb : Below w.heap.size w wr) => h.below hb)
  obtain ⟨xn, xs, xt⟩ := x
  simp only at r1' r2 hb2
  obtain ⟨w2, hw2⟩ : ∃ w2, (w.alloc (.cells #[.slice X.ai G.init.length X.ci, .slice X.ae G.edges.length X.ce, .slice X.al G.labels.length X.cl, .slice X.as_ sets.length X.cs, .int .i64 A.sets, .slice X.bi A.init.length X.di, .slice X.bn A.nodes.length X.dn] TRP)).alloc (.cells #[.int .i64 xn, .int .i64 xs, .int .i64 xt] TRq) = w2 := ⟨_, rfl⟩
  rw [hw2] at r1' r2 hb2
  have RR := Lib.hid (rright_any w2 X G sets A (H.out w2 hb2) ⟨xn, xs, xt⟩)
  have CC : Hid (∀ w3, Below w2.heap.size w2 w3 → w3.cell? ⟨w.heap.size, 0, none⟩ = some (.slice X.ai G.init.length X.ci) ∧ w3.cell? ⟨w.heap.size, 1, none⟩ = some (.slice X.ae G.edges.length X.ce) ∧ w3.cell? ⟨w.heap.size, 2, none⟩ = some (.slice X.al G.labels.length X.cl) ∧ w3.cell? ⟨w.heap.size, 3, none⟩ = some (.slice X.as_ sets.length X.cs) ∧ w3.cell? ⟨w.heap.size, 4, none⟩ = some (.int .i64 A.sets) ∧ w3.cell? ⟨w.heap.size, 5, none⟩ = some (.slice X.bi A.init.length X.di) ∧ w3.cell? ⟨w.heap.size, 6, none⟩ = some (.slice X.bn A.nodes.length X.dn) ∧ w3.cell? ⟨w.heap.size + 1, 0, none⟩ = some (.int .i64 xn) ∧ w3.cell? ⟨w.heap.size + 1, 1, none⟩ = some (.int .i64 xs) ∧ w3.cell? ⟨w.heap.size + 1, 2, none⟩ = some (.int .i64 xt)) := fun w3 hb => by
    have a := r1'.below hb
    have b := r2.below hb
    exact ⟨a.cell 0, a.cell 1, a.cell 2, a.cell 3, a.cell 4, a.cell 5, a.cell 6, b.cell 0, b.cell 1, b.cell 2⟩
  obtain ⟨c0, c1, c2, c3, c4, c5, c6, x0, x1, x2⟩ := CC.out w2 (Below.refl _ _)
  replace hb2 := Lib.hid hb2
  clear r1 r2 r1' hz1 h
  cases hi : isP sets A ⟨xn, xs, xt⟩ with
  | false =>
    have hr : Hid (inP G sets A ⟨xn, xs, xt⟩ = false) := by show _ = _; unfold inP; rw [hi]; rfl
    rw [hi] at RR
    rw [hr.out]
    clear hi hr
    go_enter Try.func22, Try.ntmps22
    go_wp2_with fail
    refine RR.out.mono ?_
    rintro e w3 ⟨rfl, hb3⟩
    clear hw2 c0 c1 c2 c3 c4 c5 c6 x0 x1 x2
    go_wp2
    go_ret
    exact ⟨rfl, btrans hb2.out hb3⟩
  | true =>
    obtain ⟨k, t, hxs, hxt, hk, htm⟩ := isP_range hi
    have hr : Hid (inP G sets A ⟨xn, xs, xt⟩ = (decide (allS sets A = 0) || (decide (t = 0) && ofP G sets A ⟨xn, xs, xt⟩))) := by
      show _ = _
      unfold inP
      rw [hi, hxt, Bool.true_and]
      congr 2
      simp
    simp only at hxs hxt
    subst hxs hxt
    obtain ⟨m, hm⟩ : ∃ m, m = allS sets A := ⟨_, rfl⟩
    rw [← hm] at hr htm
    have AL := Lib.hid (fun wr (hb : Below w.heap.size w wr) => rall_any wr X G sets A (H.out wr hb))
    rw [← hm] at AL
    have IS := Lib.hid (fun wr (hb : Below w.heap.size w wr) (h0 : 0 < m) => ris_any wr X G sets A (H.out wr hb) ⟨xn, k, t⟩ k 0 hk rfl (by rw [← hm]; exact h0))
    rw [hi] at RR
    rw [hr.out]
    replace hm := Lib.hid hm
    clear hi hr hk
    by_cases ht : t = 0
    · have htb : ((t : Int) == 0) = true := by simp; exact ht
      rw [decide_eq_true ht, Bool.true_and]
      have hof : Hid (ofP G sets A ⟨xn, k, t⟩ = ofP G sets A ⟨xn, k, ((0 : Nat) : Int)⟩) := by show _ = _; rw [ht]
      replace ht := Lib.hid ht
      by_cases h0 : m = 0
      · have h0b : ((m : Int) == 0) = true := by simp; exact h0
        rw [decide_eq_true h0, Bool.true_or]
        replace h0 := Lib.hid h0
        clear htm
        go_enter Try.func22, Try.ntmps22
        go_wp2_with fail
        refine RR.out.mono ?_
        rintro e w3 ⟨rfl, hb3⟩
        clear hw2 c0 c1 c2 c3 c4 c5 c6 x0 x1 x2
        obtain ⟨c0, c1, c2, c3, c4, c5, c6, x0, x1, x2⟩ := CC.out w3 hb3
        have hbw := Lib.hid (btrans hb2.out hb3)
        go_wp2_with fail
        refine (AL.out w3 hbw.out).mono ?_
        rintro e w4 ⟨rfl, hb4⟩
        clear c0 c1 c2 c3 c4 c5 c6 x0 x1 x2
        go_wp2
        go_ret
        exact ⟨rfl, btrans hbw.out hb4⟩
      · have h0b : ((m : Int) == 0) = false := by simp; exact h0
        rw [decide_eq_false h0, Bool.false_or, hof.out]
        obtain ⟨r, hr⟩ : ∃ r, r = ofP G sets A ⟨xn, k, ((0 : Nat) : Int)⟩ := ⟨_, rfl⟩
        have IS2 := Lib.hid (fun wr hb => IS.out wr hb (by omega))
        simp only at IS2
        rw [← hr] at IS2 ⊢
        replace h0 := Lib.hid h0
        clear htm hr hof IS
        go_enter Try.func22, Try.ntmps22
        go_wp2_with fail
        refine RR.out.mono ?_
        rintro e w3 ⟨rfl, hb3⟩
        clear hw2 c0 c1 c2 c3 c4 c5 c6 x0 x1 x2
        obtain ⟨c0, c1, c2, c3, c4, c5, c6, x0, x1, x2⟩ := CC.out w3 hb3
        have hbw := Lib.hid (btrans hb2.out hb3)
        go_wp2_with fail
        refine (AL.out w3 hbw.out).mono ?_
        rintro e w4 ⟨rfl, hb4⟩
        clear c0 c1 c2 c3 c4 c5 c6 x0 x1 x2
        obtain ⟨c0, c1, c2, c3, c4, c5, c6, x0, x1, x2⟩ := CC.out w4 (btrans hb3 hb4)
        have hbw4 := Lib.hid (btrans hbw.out hb4)
        go_wp2_with fail
        refine (IS2.out w4 hbw4.out).mono ?_
        rintro e w5 ⟨rfl, hb5⟩
        clear c0 c1 c2 c3 c4 c5 c6 x0 x1 x2
        go_wp2
        go_ret
        exact ⟨rfl, btrans hbw4.out hb5⟩
    · have htb : ((t : Int) == 0) = false := by simp; exact ht
      rw [decide_eq_false ht, Bool.false_and, decide_eq_false (show ¬ m = 0 by omega)]
      replace ht := Lib.hid ht
      clear htm
      go_enter Try.func22, Try.ntmps22
      go_wp2_with fail
      refine RR.out.mono ?_
      rintro e w3 ⟨rfl, hb3⟩
      clear hw2 c0 c1 c2 c3 c4 c5 c6 x0 x1 x2
      obtain ⟨c0, c1, c2, c3, c4, c5, c6, x0, x1, x2⟩ := CC.out w3 hb3
      go_wp2
      go_ret
      exact ⟨rfl, btrans hb2.out hb3⟩
end Go.Proofs.Ytmlbjfaofppikaa
