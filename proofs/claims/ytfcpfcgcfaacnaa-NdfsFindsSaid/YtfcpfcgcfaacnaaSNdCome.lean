/- A pair is put on a way of a search. Conditions: a search in memory, the bounds. -/
import Derived.Test.YtfcpfcgcfaacnaaSNdStep
import Derived.Deep.RegionHeld3
namespace Go.Proofs.Ytfcpfcgcfaacnaa
open Go.RowKit
theorem over_end {W : World} {Z : Zn} {p sB : Nat} {b : NB} {nx : PP → List PP} {X : SX} {S0 S1 : List SpR} {pl re ma : List PP} {s : NS} {w : World} (h : SrAt W sB Z nx X S0 S1 pl re ma (srun p b s X S0.length S1.length) w) (why : Nat) :
  EndAt W sB (overP s why) ((w.setCell ⟨sB, 3, none⟩ (.int .i64 3)).setCell ⟨sB, 4, none⟩ (.int .i64 (why : Int))) := by
 have h1 := (h.set 3 (.int .i64 3)).set 4 (.int .i64 (why : Int))
 exact ⟨h1.low, _, none, 0, none, 0, h1.row, h1.hs.1, rfl, rfl, rfl, rfl, rfl, rfl, rfl, ⟨fun h => by simp [overP] at h, fun ad h => by cases h⟩, ⟨fun h => by simp [overP] at h, fun ad h => by cases h⟩⟩
theorem EndAt.below {W w w' : World} {sB : Nat} {e : NF} (h : EndAt W sB e w) (hb : Below w.heap.size w w') : EndAt W sB e w' := by
 obtain ⟨h1, rv, sa, sc, la, lc, h2, h3, r3, r4, r5, r6, r7, r8, r9, h5, h6⟩ := h
 exact ⟨btrans h1 hb, rv, sa, sc, la, lc, h2.below hb, h3, r3, r4, r5, r6, r7, r8, r9, ⟨h5.1.below hb, h5.2⟩, ⟨h6.1.below hb, h6.2⟩⟩
set_option maxHeartbeats 2000000 in
theorem come_no (W : World) (Z : Zn) (p sB : Nat) (b : NB) (nx : PP → List PP) (s : NS) (st : List (PP × Nat)) (w : World) (way : Int) (x : PP) (k : Nat) (h : SrOk W p sB Z b nx s st k w) (hd : b.d < s.ot.length + st.length + 1) (hl : s.ot.length ≤ 1000000 ∧ st.length ≤ 1000000) :
  Calls Try.prog 79 #[.pointer (some ⟨sB, 0, none⟩), .int .i64 way, .agg #[.int .i64 x.node, .int .i64 x.state, .int .i64 x.turn]] w fun e w' => e = .returned (.bool false) ∧ EndAt W sB (overP s 2) w' := by
 obtain ⟨X, S0, S1, h1, h2, _, h4⟩ := h
 have l0 : S0.length = s.ot.length := by have := congrArg List.length h1; simpa using this
 have l1 : S1.length = st.length := by have := congrArg List.length h2; simpa using this
 obtain ⟨n0, hn0⟩ : ∃ n, n = S0.length := ⟨_, rfl⟩
 obtain ⟨n1, hn1⟩ : ∃ n, n = S1.length := ⟨_, rfl⟩
 have hA := h4.below (balloc (Below.refl _ _) (.cells #[.int .i64 x.node, .int .i64 x.state, .int .i64 x.turn] TPP))
 obtain ⟨hsl, hsl2⟩ := h4.hs
 have hE := Lib.hid (fun n => (over_end (hA.below (bdrewN (Below.refl _ _) n)) 2))
 have hr := hA.row
 unfold srun srow at hr
 rw [← hn0, ← hn1] at hr
 have c2 : (w.alloc (.cells #[.int .i64 x.node, .int .i64 x.state, .int .i64 x.turn] TPP)).cell? ⟨sB, 2, none⟩ = some (.int .i64 (b.d : Int)) := hr.cell 2
 have c3 : (w.alloc (.cells #[.int .i64 x.node, .int .i64 x.state, .int .i64 x.turn] TPP)).cell? ⟨sB, 3, none⟩ = some (.int .i64 0) := hr.cell 3
 have c4 : (w.alloc (.cells #[.int .i64 x.node, .int .i64 x.state, .int .i64 x.turn] TPP)).cell? ⟨sB, 4, none⟩ = some (.int .i64 0) := hr.cell 4
 have c10 : (w.alloc (.cells #[.int .i64 x.node, .int .i64 x.state, .int .i64 x.turn] TPP)).cell? ⟨sB, 10, none⟩ = some (.slice X.a0 n0 X.c0) := hr.cell 10
 have c11 : (w.alloc (.cells #[.int .i64 x.node, .int .i64 x.state, .int .i64 x.turn] TPP)).cell? ⟨sB, 11, none⟩ = some (.slice X.a1 n1 X.c1) := hr.cell 11
 have f3 := hr.free 3
 have f4 := hr.free 4
 have b0 : (n0 : Int) ≤ 1000000 := by omega
 have b1 : (n1 : Int) ≤ 1000000 := by omega
 have e1 : IntKind.i64.wrap ((n0 : Int) + (n1 : Int)) = ((n0 + n1 : Nat) : Int) := by rw [IntWalk.i64_in _ (by omega)]; push_cast; rfl
 obtain ⟨m, hm⟩ : ∃ m, m = n0 + n1 := ⟨_, rfl⟩
 rw [← hm] at e1
 have e2 : IntKind.i64.wrap ((m : Int) + 1) = ((m + 1 : Nat) : Int) := by rw [IntWalk.i64_in _ (by omega)]; push_cast; rfl
 obtain ⟨m1, hm1⟩ : ∃ m1, m1 = m + 1 := ⟨_, rfl⟩
 rw [← hm1] at e2
 have hlt : (b.d : Int) < (m1 : Int) := by omega
 have hdd : decide (b.d < m1) = true := decide_eq_true (by omega)
 replace hn0 := Lib.hid hn0
 replace hn1 := Lib.hid hn1
 replace hm := Lib.hid hm
 replace hm1 := Lib.hid hm1
 clear hr hA h4 h1 h2 l0 l1 hd hl
 go_enter Try.func79, Try.ntmps79
 go_wp2
 go_quiet (fail)
 clear e1 e2
 go_wp2
 go_ret
 exact ⟨rfl, hE.out nq⟩
end Go.Proofs.Ytfcpfcgcfaacnaa
