/- The walk of 'ProdNobody'. No conditions. -/
import Derived.Test.YtmlbjfaofppikaaPrArg
import Derived.Test.YtmlbjfaofppikaaPrRedge
import Derived.Deep.RegionHeld3
namespace Go.Proofs.Ytmlbjfaofppikaa
open Go.RowKit

/-- a product that no call made: nil, or one with nothing in it -/
def Nobody (w : World) (p : Option Addr) : Prop := p = none ∨ ∃ b, p = some ⟨b, 0, none⟩ ∧ w.cell? ⟨b, 0, none⟩ = some .nilIface
theorem Nobody.below {w w' : World} {p : Option Addr} (h : Nobody w p) (hb : Below w.heap.size w w') : Nobody w' p := by
  rcases h with h | ⟨b, h1, h2⟩
  · exact .inl h
  · exact .inr ⟨b, h1, bcell hb h2⟩
theorem nobody_none (w : World) (p : Option Addr) (h : Nobody w p) : Calls Try.prog 34 #[.pointer p] w fun e w' => e = .returned (.bool true) ∧ w = w' := by
  rcases h with rfl | ⟨b, rfl, hc⟩
  · exact nonil_any w
  · go_enter Try.func34, Try.ntmps34
    go_wp2
    go_ret
    exact ⟨rfl, rfl⟩
theorem nobody_is (w : World) (p : Option Addr) (h : Nobody w p) (x : PP) : Calls Try.prog 36 #[.pointer p, ppv x] w fun e w' => e = .returned (.bool false) ∧ Below w.heap.size w w' := by
  have hb1 := balloc (Below.refl w.heap.size w) (.cells #[.int .i64 x.node, .int .i64 x.state, .int .i64 x.turn] TPP)
  have N := Lib.hid (fun k => nobody_none ((w.alloc (.cells #[.int .i64 x.node, .int .i64 x.state, .int .i64 x.turn] TPP)).drewN k) p (h.below (bdrewN hb1 k)))
  replace hb1 := Lib.hid hb1
  clear h
  go_enter Try.func36, Try.ntmps36
  go_wp2
  go_quiet ((go_at_call 34; exact Calls.quiet_of_same ((N.out _).mono fun _ _ h => ⟨h.1, h.2.symm⟩)))
  go_wp2
  go_ret
  exact ⟨rfl, bdrewN hb1.out _⟩
theorem nobody_next (w : World) (p : Option Addr) (h : Nobody w p) (x : PP) : Calls Try.prog 15 #[.pointer p, ppv x] w (GivesQ w []) := by
  obtain ⟨w1, hw1⟩ : ∃ w1, w.alloc (.cells #[.int .i64 x.node, .int .i64 x.state, .int .i64 x.turn] TPP) = w1 := ⟨_, rfl⟩
  have hb1 : Below w.heap.size w w1 := by rw [← hw1]; exact balloc (Below.refl _ _) _
  have hx : RowAt w1 w.heap.size TPP [.int .i64 x.node, .int .i64 x.state, .int .i64 x.turn] := by rw [← hw1]; exact RowAt.new #[.int .i64 x.node, .int .i64 x.state, .int .i64 x.turn] rfl
  have x0 : w1.cell? ⟨w.heap.size, 0, none⟩ = some (.int .i64 x.node) := hx.cell 0
  have x1 : w1.cell? ⟨w.heap.size, 1, none⟩ = some (.int .i64 x.state) := hx.cell 1
  have x2 : w1.cell? ⟨w.heap.size, 2, none⟩ = some (.int .i64 x.turn) := hx.cell 2
  have I := Lib.hid (nobody_is w1 p (h.below hb1) x)
  clear hx h
  go_enter Try.func15, Try.ntmps15
  go_wp2_with fail
  refine I.out.mono ?_
  rintro e w2 ⟨rfl, hb2⟩
  go_wp2
  go_ret
  exact ⟨none, 0, rfl, OwnR.nil _ _ _ _, btrans hb1 hb2⟩
theorem nobody_in (w : World) (p : Option Addr) (h : Nobody w p) (x : PP) : Calls Try.prog 16 #[.pointer p, ppv x] w fun e w' => e = .returned (.bool false) ∧ Below w.heap.size w w' := by
  obtain ⟨w1, hw1⟩ : ∃ w1, w.alloc (.cells #[.int .i64 x.node, .int .i64 x.state, .int .i64 x.turn] TPP) = w1 := ⟨_, rfl⟩
  have hb1 : Below w.heap.size w w1 := by rw [← hw1]; exact balloc (Below.refl _ _) _
  have hx : RowAt w1 w.heap.size TPP [.int .i64 x.node, .int .i64 x.state, .int .i64 x.turn] := by rw [← hw1]; exact RowAt.new #[.int .i64 x.node, .int .i64 x.state, .int .i64 x.turn] rfl
  have x0 : w1.cell? ⟨w.heap.size, 0, none⟩ = some (.int .i64 x.node) := hx.cell 0
  have x1 : w1.cell? ⟨w.heap.size, 1, none⟩ = some (.int .i64 x.state) := hx.cell 1
  have x2 : w1.cell? ⟨w.heap.size, 2, none⟩ = some (.int .i64 x.turn) := hx.cell 2
  have I := Lib.hid (nobody_is w1 p (h.below hb1) x)
  clear hx h
  go_enter Try.func16, Try.ntmps16
  go_wp2_with fail
  refine I.out.mono ?_
  rintro e w2 ⟨rfl, hb2⟩
  go_wp2
  go_ret
  exact ⟨rfl, btrans hb1 hb2⟩
theorem nobody_first (w : World) (p : Option Addr) (h : Nobody w p) : Calls Try.prog 14 #[.pointer p] w (GivesQ w []) := by
  have N := Lib.hid (nobody_none w p h)
  clear h
  go_enter Try.func14, Try.ntmps14
  go_wp2_with fail
  refine N.out.mono ?_
  rintro e w1 ⟨rfl, rfl⟩
  go_wp2
  go_ret
  exact ⟨none, 0, rfl, OwnR.nil _ _ _ _, Below.refl _ _⟩
set_option maxHeartbeats 2000000 in
theorem nobody_edge (w : World) (p : Option Addr) (h : Nobody w p) (x y : PP) : Calls Try.prog 17 #[.pointer p, ppv x, ppv y] w fun e w' => e = .returned (.tuple #[.agg #[.int .i64 0, .int .i64 0], .bool false]) ∧ Below w.heap.size w w' := by
  obtain ⟨w3, hw3⟩ : ∃ w3, w3 = ((w.alloc (.cells #[.int .i64 x.node, .int .i64 x.state, .int .i64 x.turn] TPP)).alloc (.cells #[.int .i64 y.node, .int .i64 y.state, .int .i64 y.turn] TPP)).alloc (.cells #[.int .i64 0, .int .i64 0] TE) := ⟨_, rfl⟩
  have hb3 : Below w.heap.size w w3 := by rw [hw3]; exact balloc (balloc (balloc (Below.refl _ _) _) _) _
  have rx : RowAt w3 w.heap.size TPP [.int .i64 x.node, .int .i64 x.state, .int .i64 x.turn] := by rw [hw3]; exact ((RowAt.new #[_, _, _] rfl).alloc _).alloc _
  have ry : RowAt w3 (w.heap.size + 1) TPP [.int .i64 y.node, .int .i64 y.state, .int .i64 y.turn] := by rw [hw3]; exact (RowAt.new #[_, _, _] (by simp)).alloc _
  have re : RowAt w3 (w.heap.size + 1 + 1) TE [.int .i64 0, .int .i64 0] := by rw [hw3]; exact RowAt.new #[_, _] (by simp)
  have CX : Hid (∀ w', Below w3.heap.size w3 w' → w'.cell? ⟨w.heap.size, 0, none⟩ = some (.int .i64 x.node) ∧ w'.cell? ⟨w.heap.size, 1, none⟩ = some (.int .i64 x.state) ∧ w'.cell? ⟨w.heap.size, 2, none⟩ = some (.int .i64 x.turn) ∧ w'.cell? ⟨w.heap.size + 1, 0, none⟩ = some (.int .i64 y.node) ∧ w'.cell? ⟨w.heap.size + 1, 1, none⟩ = some (.int .i64 y.state) ∧ w'.cell? ⟨w.heap.size + 1, 2, none⟩ = some (.int .i64 y.turn)) := fun w' hb => ⟨bcell hb (rx.cell 0), bcell hb (rx.cell 1), bcell hb (rx.cell 2), bcell hb (ry.cell 0), bcell hb (ry.cell 1), bcell hb (ry.cell 2)⟩
  have N : Hid (∀ w', Below w3.heap.size w3 w' → Calls Try.prog 15 #[.pointer p, .agg #[.int .i64 x.node, .int .i64 x.state, .int .i64 x.turn]] w' fun e w2 => ∃ a c, e = .returned (.slice a 0 c) ∧ Below w'.heap.size w' w2) := fun w' hb => (nobody_next w' p (h.below (btrans hb3 hb)) x).mono fun e w2 ⟨a, c, h1, _, h2⟩ => ⟨a, c, h1, h2⟩
  have CN : Hid (∀ w' a c, Calls Try.prog 38 #[.slice a 0 c, .agg #[.int .i64 y.node, .int .i64 y.state, .int .i64 y.turn]] w' fun e w2 => e = .returned (.bool false) ∧ Below w'.heap.size w' w2) := fun w' a c => by
    have h1 := contq_any w' a c [] (fun h => by simp at h) y (by decide)
    rw [show decide (y ∈ []) = false by simp] at h1
    exact h1
  obtain ⟨x0, x1, x2, y0, y1, y2⟩ := CX.out w3 (Below.refl _ _)
  have HW := Lib.hid hw3
  replace re := Lib.hid re
  clear hw3 rx ry h
  go_enter Try.func17, Try.ntmps17
  go_wp2_with fail
  rw [← HW.out]
  clear HW
  go_region_held3 (fun w' => w'.cell? ⟨w.heap.size, 0, none⟩ = some (.int .i64 x.node) ∧ w'.cell? ⟨w.heap.size, 1, none⟩ = some (.int .i64 x.state) ∧ w'.cell? ⟨w.heap.size, 2, none⟩ = some (.int .i64 x.turn) ∧ w'.cell? ⟨w.heap.size + 1, 0, none⟩ = some (.int .i64 y.node) ∧ w'.cell? ⟨w.heap.size + 1, 1, none⟩ = some (.int .i64 y.state) ∧ w'.cell? ⟨w.heap.size + 1, 2, none⟩ = some (.int .i64 y.turn)) (first | exact CX.out _ K2 | exact CX.out _ K1 | exact CX.out _ (Below.refl _ _) | exact CX.out _ (Below.refl _ _).drew) (first
    | (go_at_call 38; (with_reducible refine (CN.out _ aa cc).mono ?_); rintro e w5 ⟨rfl, hb5⟩; have K2 : Below w3.heap.size w3 w5 := btrans K1 hb5)
    | (go_at_call 15; (with_reducible refine (N.out _ (Below.refl _ _).drew).mono ?_); rintro e w4 ⟨aa, cc, rfl, hb4⟩; have K1 : Below w3.heap.size w3 w4 := ⟨hb4.os, hb4.tape, hb4.output, hb4.size, hb4.block⟩))
  have r5 := re.out.below K2
  have z0 : w5.cell? ⟨w.heap.size + 1 + 1, 0, none⟩ = some (.int .i64 0) := r5.cell 0
  have z1 : w5.cell? ⟨w.heap.size + 1 + 1, 1, none⟩ = some (.int .i64 0) := r5.cell 1
  have f0 := r5.free 0
  have f1 := r5.free 1
  have hbL := Lib.hid (btrans hb3 K2)
  clear CX N CN x0 x1 x2 y0 y1 y2 K1 K2
  go_wp2
  refine bodyPost_ret (v := .tuple #[.agg #[.int .i64 0, .int .i64 0], .bool false]) (by simp [results, Try.results17, go_sem, z0, z1]) rfl ⟨rfl, bsetN (bsetN hbL.out (by omega)) (by omega)⟩
set_option maxHeartbeats 8000000 in
theorem prodNobody_walk (W : World) (c : Array Value) (x : PP) (h : rPP W c.toList x) :
    Calls Try.prog 4 #[.agg c] W fun e w' => e = .returned (.bool true) ∧ Below W.heap.size W w' := by
  obtain rfl : c = #[.int .i64 x.node, .int .i64 x.state, .int .i64 x.turn] := by
    cases c; simpa [rPP] using h
  clear h
  obtain ⟨w2, hw2⟩ : ∃ w2, w2 = (W.alloc (.cells #[.int .i64 x.node, .int .i64 x.state, .int .i64 x.turn] TPP)).alloc (.cells #[.nilIface, .int .i64 0, .slice none 0 0, .slice none 0 0, .int .i64 0] TPr) := ⟨_, rfl⟩
  have hb2 : Below W.heap.size W w2 := by rw [hw2]; exact balloc (balloc (Below.refl _ _) _) _
  have rx : RowAt w2 W.heap.size TPP [.int .i64 x.node, .int .i64 x.state, .int .i64 x.turn] := by rw [hw2]; exact (RowAt.new #[_, _, _] rfl).alloc _
  have rp : RowAt w2 (W.heap.size + 1) TPr [.nilIface, .int .i64 0, .slice none 0 0, .slice none 0 0, .int .i64 0] := by rw [hw2]; exact RowAt.new #[_, _, _, _, _] (by simp)
  have nb : ∀ w', Below w2.heap.size w2 w' → Nobody w' (some ⟨W.heap.size + 1, 0, none⟩) := fun w' hb => .inr ⟨_, rfl, bcell hb (rp.cell 0)⟩
  have i0 : ∀ w, (Instr.index 64 (.agg #[.pointer none, .pointer (some ⟨W.heap.size + 1, 0, none⟩)]) (.int .i64 0)).run Try.prog w = .ok (.pointer none) w := fun _ => by kernel_rfl
  have i1 : ∀ w, (Instr.index 64 (.agg #[.pointer none, .pointer (some ⟨W.heap.size + 1, 0, none⟩)]) (.int .i64 1)).run Try.prog w = .ok (.pointer (some ⟨W.heap.size + 1, 0, none⟩)) w := fun _ => by kernel_rfl
  have CX : Hid (∀ w', Below w2.heap.size w2 w' → w'.cell? ⟨W.heap.size, 0, none⟩ = some (.int .i64 x.node) ∧ w'.cell? ⟨W.heap.size, 1, none⟩ = some (.int .i64 x.state) ∧ w'.cell? ⟨W.heap.size, 2, none⟩ = some (.int .i64 x.turn)) := fun w' hb => ⟨bcell hb (rx.cell 0), bcell hb (rx.cell 1), bcell hb (rx.cell 2)⟩
  have HW := Lib.hid hw2
  replace nb := Lib.hid nb
  clear hw2 rx rp
  go_enter Try.func4, Try.ntmps4
  go_wp2
  rw [← HW.out]
  clear HW
  go_loopw [2, 14] (fun bv iv wr => ∃ k : Nat, bv = .bool false ∧ k ≤ 2 ∧ iv = .int .i64 k ∧ Hid (Below w2.heap.size w2 wr)) (fun _ iv _ => 2 - (intOf iv).toNat)
  case atStart => exact ⟨0, rfl, by omega, rfl, Below.refl _ _⟩
  case round =>
    obtain ⟨k, rfl, hk, rfl, hb⟩ := hrel
    obtain ⟨x0, x1, x2⟩ := CX.out wr hb.out
    by_cases h0 : k = 0
    · subst h0
      go_wp2_with fail
      refine (nobody_edge _ none (.inl rfl) x x).mono ?_
      rintro e w3 ⟨rfl, hb3⟩
      have K0 := Lib.hid (btrans hb.out (balloc hb3 (.cells #[.int .i64 0, .int .i64 0] TE)))
      clear x0 x1 x2 hb hb3
      obtain ⟨x0, x1, x2⟩ := CX.out _ K0.out
      go_wp2
      generalize w3.alloc (.cells #[.int .i64 0, .int .i64 0] TE) = w4 at K0 x0 x1 x2 ⊢
      have hX : Hid (∀ w', Below w4.heap.size w4 w' → w'.cell? ⟨W.heap.size, 0, none⟩ = some (.int .i64 x.node) ∧ w'.cell? ⟨W.heap.size, 1, none⟩ = some (.int .i64 x.state) ∧ w'.cell? ⟨W.heap.size, 2, none⟩ = some (.int .i64 x.turn)) := fun w' hb => CX.out _ (btrans K0.out hb)
      have FN : Hid (∀ w, Below w4.heap.size w4 w → Calls Try.prog 14 #[.pointer none] w fun e w' => ∃ a c, e = .returned (.slice a 0 c) ∧ Below w.heap.size w w') := fun w hb => (nobody_first w none (.inl rfl)).mono fun e w' ⟨a, c, h1, _, h2⟩ => ⟨a, c, h1, h2⟩
      have NN : Hid (∀ w, Below w4.heap.size w4 w → Calls Try.prog 15 #[.pointer none, .agg #[.int .i64 x.node, .int .i64 x.state, .int .i64 x.turn]] w fun e w' => ∃ a c, e = .returned (.slice a 0 c) ∧ Below w.heap.size w w') := fun w hb => (nobody_next w none (.inl rfl) x).mono fun e w' ⟨a, c, h1, _, h2⟩ => ⟨a, c, h1, h2⟩
      have IN : Hid (∀ w, Below w4.heap.size w4 w → Calls Try.prog 16 #[.pointer none, .agg #[.int .i64 x.node, .int .i64 x.state, .int .i64 x.turn]] w fun e w' => e = .returned (.bool false) ∧ Below w.heap.size w w') := fun w hb => nobody_in w none (.inl rfl) x
      go_region_held3 (fun w' => w'.cell? ⟨W.heap.size, 0, none⟩ = some (.int .i64 x.node) ∧ w'.cell? ⟨W.heap.size, 1, none⟩ = some (.int .i64 x.state) ∧ w'.cell? ⟨W.heap.size, 2, none⟩ = some (.int .i64 x.turn)) (first | exact hX.out _ K3 | exact hX.out _ K2 | exact hX.out _ K1 | exact hX.out _ (Below.refl _ _) | exact hX.out _ (Below.refl _ _).drew) (first
        | (go_at_call 16; (with_reducible refine (IN.out _ K2).mono ?_); rintro e w7 ⟨rfl, hb7⟩; have K3 : Below w4.heap.size w4 w7 := btrans K2 hb7)
        | (go_at_call 15; (with_reducible refine (NN.out _ K1).mono ?_); rintro e w6 ⟨aa, cc, rfl, hb6⟩; have K2 : Below w4.heap.size w4 w6 := btrans K1 hb6)
        | (go_at_call 14; (with_reducible refine (FN.out _ (Below.refl _ _).drew).mono ?_); rintro e w5 ⟨aa, cc, rfl, hb5⟩; have K1 : Below w4.heap.size w4 w5 := ⟨hb5.os, hb5.tape, hb5.output, hb5.size, hb5.block⟩))
      have K5 := Lib.hid (btrans K0.out K3)
      clear x0 x1 x2 hX FN NN IN K1 K2 K3 hb5 hb6 hb7
      go_wp2
      go_roundw
      case rel => exact ⟨1, rfl, by omega, rfl, K5.out⟩
      case measure => simp [intOf]
    · by_cases h1 : k = 1
      · subst h1
        go_wp2_with fail
        refine (nobody_edge _ (some ⟨W.heap.size + 1, 0, none⟩) (nb.out _ hb.out) x x).mono ?_
        rintro e w3 ⟨rfl, hb3⟩
        have K0 := Lib.hid (btrans hb.out (balloc hb3 (.cells #[.int .i64 0, .int .i64 0] TE)))
        clear x0 x1 x2 hb hb3
        obtain ⟨x0, x1, x2⟩ := CX.out _ K0.out
        go_wp2
        generalize w3.alloc (.cells #[.int .i64 0, .int .i64 0] TE) = w4 at K0 x0 x1 x2 ⊢
        have hX : Hid (∀ w', Below w4.heap.size w4 w' → w'.cell? ⟨W.heap.size, 0, none⟩ = some (.int .i64 x.node) ∧ w'.cell? ⟨W.heap.size, 1, none⟩ = some (.int .i64 x.state) ∧ w'.cell? ⟨W.heap.size, 2, none⟩ = some (.int .i64 x.turn)) := fun w' hb => CX.out _ (btrans K0.out hb)
        have FN : Hid (∀ w, Below w4.heap.size w4 w → Calls Try.prog 14 #[.pointer (some ⟨W.heap.size + 1, 0, none⟩)] w fun e w' => ∃ a c, e = .returned (.slice a 0 c) ∧ Below w.heap.size w w') := fun w hb => (nobody_first w (some ⟨W.heap.size + 1, 0, none⟩) (nb.out _ (btrans K0.out hb))).mono fun e w' ⟨a, c, h1, _, h2⟩ => ⟨a, c, h1, h2⟩
        have NN : Hid (∀ w, Below w4.heap.size w4 w → Calls Try.prog 15 #[.pointer (some ⟨W.heap.size + 1, 0, none⟩), .agg #[.int .i64 x.node, .int .i64 x.state, .int .i64 x.turn]] w fun e w' => ∃ a c, e = .returned (.slice a 0 c) ∧ Below w.heap.size w w') := fun w hb => (nobody_next w (some ⟨W.heap.size + 1, 0, none⟩) (nb.out _ (btrans K0.out hb)) x).mono fun e w' ⟨a, c, h1, _, h2⟩ => ⟨a, c, h1, h2⟩
        have IN : Hid (∀ w, Below w4.heap.size w4 w → Calls Try.prog 16 #[.pointer (some ⟨W.heap.size + 1, 0, none⟩), .agg #[.int .i64 x.node, .int .i64 x.state, .int .i64 x.turn]] w fun e w' => e = .returned (.bool false) ∧ Below w.heap.size w w') := fun w hb => nobody_in w (some ⟨W.heap.size + 1, 0, none⟩) (nb.out _ (btrans K0.out hb)) x
        go_region_held3 (fun w' => w'.cell? ⟨W.heap.size, 0, none⟩ = some (.int .i64 x.node) ∧ w'.cell? ⟨W.heap.size, 1, none⟩ = some (.int .i64 x.state) ∧ w'.cell? ⟨W.heap.size, 2, none⟩ = some (.int .i64 x.turn)) (first | exact hX.out _ K3 | exact hX.out _ K2 | exact hX.out _ K1 | exact hX.out _ (Below.refl _ _) | exact hX.out _ (Below.refl _ _).drew) (first
          | (go_at_call 16; (with_reducible refine (IN.out _ K2).mono ?_); rintro e w7 ⟨rfl, hb7⟩; have K3 : Below w4.heap.size w4 w7 := btrans K2 hb7)
          | (go_at_call 15; (with_reducible refine (NN.out _ K1).mono ?_); rintro e w6 ⟨aa, cc, rfl, hb6⟩; have K2 : Below w4.heap.size w4 w6 := btrans K1 hb6)
          | (go_at_call 14; (with_reducible refine (FN.out _ (Below.refl _ _).drew).mono ?_); rintro e w5 ⟨aa, cc, rfl, hb5⟩; have K1 : Below w4.heap.size w4 w5 := ⟨hb5.os, hb5.tape, hb5.output, hb5.size, hb5.block⟩))
        have K5 := Lib.hid (btrans K0.out K3)
        clear x0 x1 x2 hX FN NN IN K1 K2 K3 hb5 hb6 hb7
        go_wp2
        go_roundw
        case rel => exact ⟨2, rfl, by omega, rfl, K5.out⟩
        case measure => simp [intOf]
      · obtain rfl : k = 2 := by omega
        go_wp2_with fail
        refine (awake_true _).mono ?_
        rintro e w3 ⟨rfl, hb3⟩
        go_wp2
        go_ret
        exact ⟨rfl, btrans hb2 (btrans hb.out hb3)⟩
end Go.Proofs.Ytmlbjfaofppikaa
