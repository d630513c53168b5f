/- What a product that no call made tells. No conditions. -/
import Derived.Test.YtfcpfcgcfaacnaaPrNew
import Derived.Test.YtfcpfcgcfaacnaaPrNext
import Derived.Test.YtfcpfcgcfaacnaaPrRin
import Derived.Deep.RegionHeld3
namespace Go.Proofs.Ytfcpfcgcfaacnaa
open Go.RowKit

/-- a product that no call made: nil, or one with nothing in it -/
def Nobody (w : World) (p : Option Addr) : Prop := p = none ∨ ∃ b, p = some ⟨b, 0, none⟩ ∧ w.cell? ⟨b, 0, none⟩ = some .nilIface
theorem Nobody.below {w w' : World} {p : Option Addr} (h : Nobody w p) (hb : Below w.heap.size w w') : Nobody w' p := by
  rcases h with h | ⟨b, h1, h2⟩
  · exact .inl h
  · exact .inr ⟨b, h1, bcell hb h2⟩
theorem nobody_none (w : World) (p : Option Addr) (h : Nobody w p) : Calls Try.prog 66 #[.pointer p] w fun e w' => e = .returned (.bool true) ∧ w = w' := by
  rcases h with rfl | ⟨b, rfl, hc⟩
  · exact nonil_any w
  · go_enter Try.func66, Try.ntmps66
    go_wp2
    go_ret
    exact ⟨rfl, rfl⟩
theorem nobody_is (w : World) (p : Option Addr) (h : Nobody w p) (x : PP) : Calls Try.prog 80 #[.pointer p, ppv x] w fun e w' => e = .returned (.bool false) ∧ Below w.heap.size w w' := by
  have hb1 := balloc (Below.refl w.heap.size w) (.cells #[.int .i64 x.node, .int .i64 x.state, .int .i64 x.turn] TPP)
  have N := Lib.hid (fun k => nobody_none ((w.alloc (.cells #[.int .i64 x.node, .int .i64 x.state, .int .i64 x.turn] TPP)).drewN k) p (h.below (bdrewN hb1 k)))
  replace hb1 := Lib.hid hb1
  clear h
  go_enter Try.func80, Try.ntmps80
  go_wp2
  go_quiet ((go_at_call 66; exact Calls.quiet_of_same ((N.out _).mono fun _ _ h => ⟨h.1, h.2.symm⟩)))
  go_wp2
  go_ret
  exact ⟨rfl, bdrewN hb1.out _⟩
theorem nobody_next (w : World) (p : Option Addr) (h : Nobody w p) (x : PP) : Calls Try.prog 82 #[.pointer p, ppv x] w (GivesQ w []) := by
  obtain ⟨w1, hw1⟩ : ∃ w1, w.alloc (.cells #[.int .i64 x.node, .int .i64 x.state, .int .i64 x.turn] TPP) = w1 := ⟨_, rfl⟩
  have hb1 : Below w.heap.size w w1 := by rw [← hw1]; exact balloc (Below.refl _ _) _
  have hx : RowAt w1 w.heap.size TPP [.int .i64 x.node, .int .i64 x.state, .int .i64 x.turn] := by rw [← hw1]; exact RowAt.new #[.int .i64 x.node, .int .i64 x.state, .int .i64 x.turn] rfl
  have x0 : w1.cell? ⟨w.heap.size, 0, none⟩ = some (.int .i64 x.node) := hx.cell 0
  have x1 : w1.cell? ⟨w.heap.size, 1, none⟩ = some (.int .i64 x.state) := hx.cell 1
  have x2 : w1.cell? ⟨w.heap.size, 2, none⟩ = some (.int .i64 x.turn) := hx.cell 2
  have I := Lib.hid (nobody_is w1 p (h.below hb1) x)
  clear hx h
  go_enter Try.func82, Try.ntmps82
  go_wp2_with fail
  refine I.out.mono ?_
  rintro e w2 ⟨rfl, hb2⟩
  go_wp2
  go_ret
  exact ⟨none, 0, rfl, OwnR.nil _ _ _ _, btrans hb1 hb2⟩
theorem nobody_in (w : World) (p : Option Addr) (h : Nobody w p) (x : PP) : Calls Try.prog 70 #[.pointer p, ppv x] w fun e w' => e = .returned (.bool false) ∧ Below w.heap.size w w' := by
  obtain ⟨w1, hw1⟩ : ∃ w1, w.alloc (.cells #[.int .i64 x.node, .int .i64 x.state, .int .i64 x.turn] TPP) = w1 := ⟨_, rfl⟩
  have hb1 : Below w.heap.size w w1 := by rw [← hw1]; exact balloc (Below.refl _ _) _
  have hx : RowAt w1 w.heap.size TPP [.int .i64 x.node, .int .i64 x.state, .int .i64 x.turn] := by rw [← hw1]; exact RowAt.new #[.int .i64 x.node, .int .i64 x.state, .int .i64 x.turn] rfl
  have x0 : w1.cell? ⟨w.heap.size, 0, none⟩ = some (.int .i64 x.node) := hx.cell 0
  have x1 : w1.cell? ⟨w.heap.size, 1, none⟩ = some (.int .i64 x.state) := hx.cell 1
  have x2 : w1.cell? ⟨w.heap.size, 2, none⟩ = some (.int .i64 x.turn) := hx.cell 2
  have I := Lib.hid (nobody_is w1 p (h.below hb1) x)
  clear hx h
  go_enter Try.func70, Try.ntmps70
  go_wp2_with fail
  refine I.out.mono ?_
  rintro e w2 ⟨rfl, hb2⟩
  go_wp2
  go_ret
  exact ⟨rfl, btrans hb1 hb2⟩
theorem nobody_first (w : World) (p : Option Addr) (h : Nobody w p) : Calls Try.prog 38 #[.pointer p] w (GivesQ w []) := by
  have N := Lib.hid (nobody_none w p h)
  clear h
  go_enter Try.func38, Try.ntmps38
  go_wp2_with fail
  refine N.out.mono ?_
  rintro e w1 ⟨rfl, rfl⟩
  go_wp2
  go_ret
  exact ⟨none, 0, rfl, OwnR.nil _ _ _ _, Below.refl _ _⟩
set_option maxHeartbeats 2000000 in
theorem nobody_edge (w : World) (p : Option Addr) (h : Nobody w p) (x y : PP) : Calls Try.prog 74 #[.pointer p, ppv x, ppv y] w fun e w' => e = .returned (.tuple #[.agg #[.int .i64 0, .int .i64 0], .bool false]) ∧ Below w.heap.size w w' := by
  obtain ⟨w3, hw3⟩ : ∃ w3, w3 = ((w.alloc (.cells #[.int .i64 x.node, .int .i64 x.state, .int .i64 x.turn] TPP)).alloc (.cells #[.int .i64 y.node, .int .i64 y.state, .int .i64 y.turn] TPP)).alloc (.cells #[.int .i64 0, .int .i64 0] TE) := ⟨_, rfl⟩
  have hb3 : Below w.heap.size w w3 := by rw [hw3]; exact balloc (balloc (balloc (Below.refl _ _) _) _) _
  have rx : RowAt w3 w.heap.size TPP [.int .i64 x.node, .int .i64 x.state, .int .i64 x.turn] := by rw [hw3]; exact ((RowAt.new #[_, _, _] rfl).alloc _).alloc _
  have ry : RowAt w3 (w.heap.size + 1) TPP [.int .i64 y.node, .int .i64 y.state, .int .i64 y.turn] := by rw [hw3]; exact (RowAt.new #[_, _, _] (by simp)).alloc _
  have re : RowAt w3 (w.heap.size + 1 + 1) TE [.int .i64 0, .int .i64 0] := by rw [hw3]; exact RowAt.new #[_, _] (by simp)
  have CX : Hid (∀ w', Below w3.heap.size w3 w' → w'.cell? ⟨w.heap.size, 0, none⟩ = some (.int .i64 x.node) ∧ w'.cell? ⟨w.heap.size, 1, none⟩ = some (.int .i64 x.state) ∧ w'.cell? ⟨w.heap.size, 2, none⟩ = some (.int .i64 x.turn) ∧ w'.cell? ⟨w.heap.size + 1, 0, none⟩ = some (.int .i64 y.node) ∧ w'.cell? ⟨w.heap.size + 1, 1, none⟩ = some (.int .i64 y.state) ∧ w'.cell? ⟨w.heap.size + 1, 2, none⟩ = some (.int .i64 y.turn)) := fun w' hb => ⟨bcell hb (rx.cell 0), bcell hb (rx.cell 1), bcell hb (rx.cell 2), bcell hb (ry.cell 0), bcell hb (ry.cell 1), bcell hb (ry.cell 2)⟩
  have N : Hid (∀ w', Below w3.heap.size w3 w' → Calls Try.prog 82 #[.pointer p, .agg #[.int .i64 x.node, .int .i64 x.state, .int .i64 x.turn]] w' fun e w2 => ∃ a c, e = .returned (.slice a 0 c) ∧ Below w'.heap.size w' w2) := fun w' hb => (nobody_next w' p (h.below (btrans hb3 hb)) x).mono fun e w2 ⟨a, c, h1, _, h2⟩ => ⟨a, c, h1, h2⟩
  have CN : Hid (∀ w' a c, Calls Try.prog 84 #[.slice a 0 c, .agg #[.int .i64 y.node, .int .i64 y.state, .int .i64 y.turn]] w' fun e w2 => e = .returned (.bool false) ∧ Below w'.heap.size w' w2) := fun w' a c => by
    have h1 := contq_any w' a c [] (fun h => by simp at h) y (by decide)
    rw [show decide (y ∈ []) = false by simp] at h1
    exact h1
  obtain ⟨x0, x1, x2, y0, y1, y2⟩ := CX.out w3 (Below.refl _ _)
  have HW := Lib.hid hw3
  replace re := Lib.hid re
  clear hw3 rx ry h
  go_enter Try.func74, Try.ntmps74
  go_wp2_with fail
  rw [← HW.out]
  clear HW
  go_region_held3 (fun w' => w'.cell? ⟨w.heap.size, 0, none⟩ = some (.int .i64 x.node) ∧ w'.cell? ⟨w.heap.size, 1, none⟩ = some (.int .i64 x.state) ∧ w'.cell? ⟨w.heap.size, 2, none⟩ = some (.int .i64 x.turn) ∧ w'.cell? ⟨w.heap.size + 1, 0, none⟩ = some (.int .i64 y.node) ∧ w'.cell? ⟨w.heap.size + 1, 1, none⟩ = some (.int .i64 y.state) ∧ w'.cell? ⟨w.heap.size + 1, 2, none⟩ = some (.int .i64 y.turn)) (first | exact CX.out _ K2 | exact CX.out _ K1 | exact CX.out _ (Below.refl _ _) | exact CX.out _ (Below.refl _ _).drew) (first
    | (go_at_call 84; (with_reducible refine (CN.out _ aa cc).mono ?_); rintro e w5 ⟨rfl, hb5⟩; have K2 : Below w3.heap.size w3 w5 := btrans K1 hb5)
    | (go_at_call 82; (with_reducible refine (N.out _ (Below.refl _ _).drew).mono ?_); rintro e w4 ⟨aa, cc, rfl, hb4⟩; have K1 : Below w3.heap.size w3 w4 := ⟨hb4.os, hb4.tape, hb4.output, hb4.size, hb4.block⟩))
  have r5 := re.out.below K2
  have z0 : w5.cell? ⟨w.heap.size + 1 + 1, 0, none⟩ = some (.int .i64 0) := r5.cell 0
  have z1 : w5.cell? ⟨w.heap.size + 1 + 1, 1, none⟩ = some (.int .i64 0) := r5.cell 1
  have f0 := r5.free 0
  have f1 := r5.free 1
  have hbL := Lib.hid (btrans hb3 K2)
  clear CX N CN x0 x1 x2 y0 y1 y2 K1 K2
  go_wp2
  refine bodyPost_ret (v := .tuple #[.agg #[.int .i64 0, .int .i64 0], .bool false]) (by simp [results, Try.results74, go_sem, z0, z1]) rfl ⟨rfl, bsetN (bsetN hbL.out (by omega)) (by omega)⟩
end Go.Proofs.Ytfcpfcgcfaacnaa
