/- A pair is reached by a search. Conditions: a search in memory, the bounds. -/
import Derived.Test.YtfcpfcgcfaacnaaSNdCome2
namespace Go.Proofs.Ytfcpfcgcfaacnaa
open Go.RowKit
set_option maxHeartbeats 2000000 in
theorem reach_n (W : World) (Z : Zn) (p sB : Nat) (b : NB) (nx : PP → List PP) (s : NS) (st : List (PP × Nat)) (k : Nat) (w : World) (x : PP) (h : SrOk W p sB Z b nx s st k w) (hn : b.n ≤ s.nodes) :
  Calls Try.prog 68 #[.pointer (some ⟨sB, 0, none⟩), .agg #[.int .i64 x.node, .int .i64 x.state, .int .i64 x.turn]] w fun e w' => e = .returned (.bool false) ∧ EndAt W sB (overP s 1) w' := by
 obtain ⟨X, S0, S1, h1, h2, _, h4⟩ := h
 have hA := h4.below (balloc (Below.refl _ _) (.cells #[.int .i64 x.node, .int .i64 x.state, .int .i64 x.turn] TPP))
 obtain ⟨hsl, hsl2⟩ := h4.hs
 have hE := Lib.hid (fun n => (over_end (hA.below (bdrewN (Below.refl _ _) n)) 1))
 have hr := hA.row
 unfold srun srow at hr
 have c1 : (w.alloc (.cells #[.int .i64 x.node, .int .i64 x.state, .int .i64 x.turn] TPP)).cell? ⟨sB, 1, none⟩ = some (.int .i64 (b.n : Int)) := hr.cell 1
 have c5 : (w.alloc (.cells #[.int .i64 x.node, .int .i64 x.state, .int .i64 x.turn] TPP)).cell? ⟨sB, 5, none⟩ = some (.int .i64 (s.nodes : Int)) := hr.cell 5
 have c3 : (w.alloc (.cells #[.int .i64 x.node, .int .i64 x.state, .int .i64 x.turn] TPP)).cell? ⟨sB, 3, none⟩ = some (.int .i64 0) := hr.cell 3
 have c4 : (w.alloc (.cells #[.int .i64 x.node, .int .i64 x.state, .int .i64 x.turn] TPP)).cell? ⟨sB, 4, none⟩ = some (.int .i64 0) := hr.cell 4
 have f3 := hr.free 3
 have f4 := hr.free 4
 have hlt : (b.n : Int) ≤ (s.nodes : Int) := by omega
 have hdd : decide (b.n ≤ s.nodes) = true := decide_eq_true (by omega)
 clear hr hA h4 h1 h2
 go_enter Try.func68, Try.ntmps68
 go_wp2
 go_quiet (fail)
 go_wp2
 go_ret
 exact ⟨rfl, hE.out nq⟩
theorem reach_at {W : World} {Z : Zn} {p sB : Nat} {b : NB} {nx : PP → List PP} {X : SX} {S0 S1 : List SpR} {pl ma : List PP} {s : NS} {w : World} {x : PP} (h : SrAt W sB Z nx X S0 S1 pl (s.reached ++ [x]) ma ((srun p b s X S0.length S1.length).set 5 (.int .i64 ((s.nodes + 1 : Nat) : Int))) w) : SrAt W sB Z nx X S0 S1 pl (reachS s x).reached ma (srun p b (reachS s x) X S0.length S1.length) w := h
set_option maxHeartbeats 4000000 in
theorem reach_go (W : World) (Z : Zn) (p sB : Nat) (b : NB) (G : GR) (sets : List (List Bool)) (A : AU) (hP : PrAt W p G sets A) (lt : Lt G sets A) (s : NS) (w : World) (x : PP) (h : SrOk W p sB Z b (nextP G sets A) s [] s.nodes w) (hp : okPP x) (hx : x ∉ way s.ot) (hkp : ∀ a c S, Z.kp.f a c S) (hn : ¬ b.n ≤ s.nodes) (hl : s.ot.length ≤ 1000000 ∧ s.nodes < 1000000 ∧ s.depth ≤ 1000000 ∧ s.reached.length ≤ 1000000) :
  Calls Try.prog 68 #[.pointer (some ⟨sB, 0, none⟩), .agg #[.int .i64 x.node, .int .i64 x.state, .int .i64 x.turn]] w (Goes W p sB Z b (nextP G sets A) [] (comeP b s x)) := by
 have CM : Hid (∀ v, SrOk W p sB Z b (nextP G sets A) (reachS s x) [] s.nodes v → Calls Try.prog 79 #[.pointer (some ⟨sB, 0, none⟩), .int .i64 0, .agg #[.int .i64 x.node, .int .i64 x.state, .int .i64 x.turn]] v fun e w' => ∃ bo : Bool, e = .returned (.bool bo) ∧ Goes W p sB Z b (nextP G sets A) [] (comeP b s x) e w') := fun v hv => by
  by_cases hd : b.d < s.ot.length + 1
  ·rw [comeP_d hn hd]
   refine (come_no W Z p sB b _ (reachS s x) [] v 0 x s.nodes hv (by show b.d < s.ot.length + 0 + 1; omega) ⟨hl.1, Nat.zero_le _⟩).mono ?_
   rintro e w' ⟨rfl, hE⟩
   exact ⟨false, rfl, rfl, hE⟩
  ·rw [comeP_ok hn hd]
   refine (come0_yes W Z p sB b G sets A hP lt (reachS s x) v x s.nodes (by omega) hv hp hx hkp (by show ¬ b.d < s.ot.length + 0 + 1; omega) ⟨hl.1, Nat.zero_le _, by show s.nodes + 1 ≤ _; omega, hl.2.2.1⟩).mono ?_
   rintro e w' ⟨rfl, hE⟩
   exact ⟨true, rfl, rfl, hE⟩
 obtain ⟨X, S0, S1, h1, h2, h3, h4⟩ := h
 have hA := h4.below (balloc (Below.refl _ _) (.cells #[.int .i64 x.node, .int .i64 x.state, .int .i64 x.turn] TPP))
 have rb := RowAt.new (w := w) (T := TPP) #[.int .i64 x.node, .int .i64 x.state, .int .i64 x.turn] rfl
 obtain ⟨hsl, hsl2⟩ := h4.hs
 have hr := hA.row
 unfold srun srow at hr
 have c1 : (w.alloc (.cells #[.int .i64 x.node, .int .i64 x.state, .int .i64 x.turn] TPP)).cell? ⟨sB, 1, none⟩ = some (.int .i64 (b.n : Int)) := hr.cell 1
 have c5 : (w.alloc (.cells #[.int .i64 x.node, .int .i64 x.state, .int .i64 x.turn] TPP)).cell? ⟨sB, 5, none⟩ = some (.int .i64 (s.nodes : Int)) := hr.cell 5
 have f5 := hr.free 5
 have hlt : ¬ (b.n : Int) ≤ (s.nodes : Int) := by omega
 have hdd : decide (b.n ≤ s.nodes) = false := decide_eq_false (by omega)
 have hni : (s.nodes : Int) ≤ 1000000 := by omega
 have hB : Hid (∀ n, SrAt W sB Z (nextP G sets A) X S0 S1 (way s.ot) s.reached s.marked ((srun p b s X S0.length S1.length).set 5 (.int .i64 ((s.nodes + 1 : Nat) : Int))) (((w.alloc (.cells #[.int .i64 x.node, .int .i64 x.state, .int .i64 x.turn] TPP)).drewN n).setCell ⟨sB, 5, none⟩ (.int .i64 ((s.nodes : Int) + 1)))) := fun n =>
  (hA.below (bdrewN (Below.refl _ _) n)).set 5 (.int .i64 ((s.nodes + 1 : Nat) : Int))
 have rB : Hid (∀ n, RowAt (((w.alloc (.cells #[.int .i64 x.node, .int .i64 x.state, .int .i64 x.turn] TPP)).drewN n).setCell ⟨sB, 5, none⟩ (.int .i64 ((s.nodes : Int) + 1))) w.heap.size TPP [.int .i64 x.node, .int .i64 x.state, .int .i64 x.turn]) := fun n =>
  (rb.below (bdrewN (Below.refl _ _) n)).other (by omega) 5 _
 have hml := h4.mr.lt
 clear hr hA rb h4
 go_enter Try.func68, Try.ntmps68
 go_wp2
 go_quiet (fail)
 go_wp2
 have hB2 := hB.out nq
 have rB2 := rB.out nq
 generalize ((w.alloc (.cells #[.int .i64 x.node, .int .i64 x.state, .int .i64 x.turn] TPP)).drewN nq).setCell ⟨sB, 5, none⟩ (.int .i64 ((s.nodes : Int) + 1)) = w2 at hB2 rB2 ⊢
 have d13 : w2.cell? ⟨sB, 13, none⟩ = some (.map (some X.mr)) := hB2.row.cell 13
 have x0 : w2.cell? ⟨w.heap.size, 0, none⟩ = some (.int .i64 x.node) := rB2.cell 0
 have x1 : w2.cell? ⟨w.heap.size, 1, none⟩ = some (.int .i64 x.state) := rB2.cell 1
 have x2 : w2.cell? ⟨w.heap.size, 2, none⟩ = some (.int .i64 x.turn) := rB2.cell 2
 obtain ⟨w3, hrun, hm3, hg3⟩ := (hB2.below (Below.refl _ _).drew).mr.put hp (by omega)
 simp only [ppv] at hrun
 have hB3 := (hB2.below (Below.refl _ _).drew).putR hg3 hm3
 have rB3 := (rB2.below (Below.refl _ _).drew).keeps (Keeps.of_grown (S := fun j => j = X.mr) hg3 (fun j e => by cases e; rfl)) (fun e => by omega)
 have hok : Hid (SrOk W p sB Z b (nextP G sets A) (reachS s x) [] s.nodes w3) := ⟨X, S0, S1, h1, h2, h3, reach_at hB3⟩
 have y0 : w3.cell? ⟨w.heap.size, 0, none⟩ = some (.int .i64 x.node) := rB3.cell 0
 have y1 : w3.cell? ⟨w.heap.size, 1, none⟩ = some (.int .i64 x.state) := rB3.cell 1
 have y2 : w3.cell? ⟨w.heap.size, 2, none⟩ = some (.int .i64 x.turn) := rB3.cell 2
 clear hB rB hB2 rB2 hm3 hg3 hB3 rB3 h1 h2 h3 c1 c5 f5
 go_region
 go_wp2_with fail
 refine (CM.out w3 hok.out).mono ?_
 rintro e w4 ⟨bo, rfl, hG⟩
 replace hG := Lib.hid hG
 go_wp2
 go_ret
 exact hG.out
theorem reach_any (W : World) (Z : Zn) (p sB : Nat) (b : NB) (G : GR) (sets : List (List Bool)) (A : AU) (hP : PrAt W p G sets A) (lt : Lt G sets A) (s : NS) (w : World) (x : PP) (h : SrOk W p sB Z b (nextP G sets A) s [] s.nodes w) (hp : okPP x) (hx : x ∉ way s.ot) (hkp : ∀ a c S, Z.kp.f a c S) (hl : s.ot.length ≤ 1000000 ∧ s.nodes < 1000000 ∧ s.depth ≤ 1000000 ∧ s.reached.length ≤ 1000000) :
  Calls Try.prog 68 #[.pointer (some ⟨sB, 0, none⟩), .agg #[.int .i64 x.node, .int .i64 x.state, .int .i64 x.turn]] w (Goes W p sB Z b (nextP G sets A) [] (comeP b s x)) := by
 by_cases hn : b.n ≤ s.nodes
 ·rw [comeP_n hn]
  exact reach_n W Z p sB b _ s [] s.nodes w x h hn
 ·exact reach_go W Z p sB b G sets A hP lt s w x h hp hx hkp hn hl
end Go.Proofs.Ytfcpfcgcfaacnaa
