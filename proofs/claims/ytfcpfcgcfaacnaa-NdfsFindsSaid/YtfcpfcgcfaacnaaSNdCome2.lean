/- A pair is put on a way of a search, which is not too deep. Conditions: a search in memory, the bounds. -/
import Derived.Test.YtfcpfcgcfaacnaaSNdCome
namespace Go.Proofs.Ytfcpfcgcfaacnaa
set_option linter.unusedVariables false
open Go.RowKit
theorem fin0 {W w : World} {Z : Zn} {p sB sn se sd dm n0 : Nat} {b : NB} {nx : PP → List PP} {X X' : SX} {S0 S1 : List SpR} {e : SpR} {pl re ma : List PP} {ot : List (PP × Nat)} {x : PP} {a' : Option Addr} {c' : Nat} (h : SrAt W sB Z nx { X' with a0 := a', c0 := c' } (S0 ++ [e]) S1 pl re ma ((srow p b 0 0 sn se dm (.slice none 0 0) (.slice none 0 0) X S0.length S1.length).set 10 (.slice a' (n0 + 1) c')) w) (hd : max sd (ot.length + 1) = dm) (hn : n0 = S0.length) (hX : X.a1 = X'.a1 ∧ X.c1 = X'.c1 ∧ X.mp = X'.mp ∧ X.mr = X'.mr ∧ X.mm = X'.mm := by exact ⟨rfl, rfl, rfl, rfl, rfl⟩) :
  SrAt W sB Z nx { X' with a0 := a', c0 := c' } (S0 ++ [e]) S1 pl re ma (srun p b (pushS ⟨sn, se, sd, re, ma, ot⟩ x) { X' with a0 := a', c0 := c' } (S0 ++ [e]).length S1.length) w := by
 obtain ⟨h1, h2, h3, h4, h5⟩ := hX
 have e1 : (srow p b 0 0 sn se dm (.slice none 0 0) (.slice none 0 0) X S0.length S1.length).set 10 (.slice a' (n0 + 1) c') = srun p b (pushS ⟨sn, se, sd, re, ma, ot⟩ x) { X' with a0 := a', c0 := c' } (S0 ++ [e]).length S1.length := by
  simp only [srun, srow, pushS, hd, List.length_append, List.length_cons, List.length_nil, ← hn, h1, h2, h3, h4, h5]
  rfl
 rw [e1] at h
 exact h
theorem fin1 {W w : World} {Z : Zn} {p sB sn se sd dm n1 d : Nat} {b : NB} {nx : PP → List PP} {X : SX} {S0 S1 : List SpR} {e : SpR} {pl re ma : List PP} {ot : List (PP × Nat)} {a' : Option Addr} {c' : Nat} (h : SrAt W sB Z nx { X with a1 := a', c1 := c' } S0 (S1 ++ [e]) pl re ma ((srow p b 0 0 sn se dm (.slice none 0 0) (.slice none 0 0) X S0.length S1.length).set 11 (.slice a' (n1 + 1) c')) w) (hd : max sd d = dm) (hn : n1 = S1.length) :
  SrAt W sB Z nx { X with a1 := a', c1 := c' } S0 (S1 ++ [e]) pl re ma (srun p b (deepS ⟨sn, se, sd, re, ma, ot⟩ d) { X with a1 := a', c1 := c' } S0.length (S1 ++ [e]).length) w := by
 have e1 : (srow p b 0 0 sn se dm (.slice none 0 0) (.slice none 0 0) X S0.length S1.length).set 11 (.slice a' (n1 + 1) c') = srun p b (deepS ⟨sn, se, sd, re, ma, ot⟩ d) { X with a1 := a', c1 := c' } S0.length (S1 ++ [e]).length := by
  simp only [srun, srow, deepS, hd, List.length_append, List.length_cons, List.length_nil, ← hn]
  rfl
 rw [e1] at h
 exact h
set_option maxHeartbeats 8000000 in
theorem come0_yes (W : World) (Z : Zn) (p sB : Nat) (b : NB) (G : GR) (sets : List (List Bool)) (A : AU) (hP : PrAt W p G sets A) (lt : Lt G sets A) (s : NS) (w : World) (x : PP) (k : Nat) (hk : k ≤ 1000000) (h : SrOk W p sB Z b (nextP G sets A) s [] k w) (hp : okPP x) (hx : x ∉ way s.ot) (hkp : ∀ a c S, Z.kp.f a c S) (hd : ¬ b.d < s.ot.length + 0 + 1) (hl : s.ot.length ≤ 1000000 ∧ 0 ≤ 1000000 ∧ s.nodes ≤ 1000000 ∧ s.depth ≤ 1000000) :
  Calls Try.prog 79 #[.pointer (some ⟨sB, 0, none⟩), .int .i64 0, .agg #[.int .i64 x.node, .int .i64 x.state, .int .i64 x.turn]] w fun e w' => e = .returned (.bool true) ∧ SrOk W p sB Z b (nextP G sets A) (pushS s x) [] (k + 1) w' := by
 obtain ⟨sn, se, sd, sre, sma, sot⟩ := s
 obtain ⟨X, S0, S1, h1, h2, ⟨h3, _⟩, h4⟩ := h
 simp only [srun] at h1 h2 h3 h4 hd hl hx
 have l0 : S0.length = sot.length := by have := congrArg List.length h1; simpa using this
 have l1 : S1.length = 0 := by have := congrArg List.length h2; simpa using this
 obtain ⟨n0, hn0⟩ : ∃ n, n = S0.length := ⟨_, rfl⟩
 obtain ⟨n1, hn1⟩ : ∃ n, n = S1.length := ⟨_, rfl⟩
 have hA := h4.below (balloc (Below.refl _ _) (.cells #[.int .i64 x.node, .int .i64 x.state, .int .i64 x.turn] TPP))
 have rb := RowAt.new (w := w) (T := TPP) #[.int .i64 x.node, .int .i64 x.state, .int .i64 x.turn] rfl
 obtain ⟨hsl, hsl2⟩ := h4.hs
 have hr := hA.row
 unfold srow at hr
 rw [← hn0, ← hn1] at hr
 have c2 : (w.alloc (.cells #[.int .i64 x.node, .int .i64 x.state, .int .i64 x.turn] TPP)).cell? ⟨sB, 2, none⟩ = some (.int .i64 (b.d : Int)) := hr.cell 2
 have c7 : (w.alloc (.cells #[.int .i64 x.node, .int .i64 x.state, .int .i64 x.turn] TPP)).cell? ⟨sB, 7, none⟩ = some (.int .i64 (sd : Int)) := hr.cell 7
 have c10 : (w.alloc (.cells #[.int .i64 x.node, .int .i64 x.state, .int .i64 x.turn] TPP)).cell? ⟨sB, 10, none⟩ = some (.slice X.a0 n0 X.c0) := hr.cell 10
 have c11 : (w.alloc (.cells #[.int .i64 x.node, .int .i64 x.state, .int .i64 x.turn] TPP)).cell? ⟨sB, 11, none⟩ = some (.slice X.a1 n1 X.c1) := hr.cell 11
 have f7 := hr.free 7
 have b0 : (n0 : Int) ≤ 1000000 := by omega
 have b1 : (n1 : Int) ≤ 1000000 := by omega
 have bd : (sd : Int) ≤ 1000000 := by omega
 have e1 : IntKind.i64.wrap ((n0 : Int) + (n1 : Int)) = ((n0 + n1 : Nat) : Int) := by rw [IntWalk.i64_in _ (by omega)]; push_cast; rfl
 obtain ⟨m, hm⟩ : ∃ m, m = n0 + n1 := ⟨_, rfl⟩
 rw [← hm] at e1
 have e2 : IntKind.i64.wrap ((m : Int) + 1) = ((m + 1 : Nat) : Int) := by rw [IntWalk.i64_in _ (by omega)]; push_cast; rfl
 obtain ⟨m1, hm1⟩ : ∃ m1, m1 = m + 1 := ⟨_, rfl⟩
 rw [← hm1] at e2
 have hlt : ¬ (b.d : Int) < (m1 : Int) := by omega
 have hdd : decide (b.d < m1) = false := decide_eq_false (by omega)
 obtain ⟨dm, hdm⟩ : ∃ dm, dm = max sd m1 := ⟨_, rfl⟩
 have hB : ∀ n, SrAt W sB Z (nextP G sets A) X S0 S1 (way sot) sre sma (srow p b 0 0 sn se dm (.slice none 0 0) (.slice none 0 0) X S0.length S1.length) ((((w.alloc (.cells #[.int .i64 x.node, .int .i64 x.state, .int .i64 x.turn] TPP)).drewN n).setCell ⟨sB, 7, none⟩ (.int .i64 (dm : Int)))) := fun n =>
  (hA.below (bdrewN (Below.refl _ _) n)).set 7 (.int .i64 (dm : Int))
 have rB : ∀ n, RowAt ((((w.alloc (.cells #[.int .i64 x.node, .int .i64 x.state, .int .i64 x.turn] TPP)).drewN n).setCell ⟨sB, 7, none⟩ (.int .i64 (dm : Int)))) w.heap.size TPP [.int .i64 x.node, .int .i64 x.state, .int .i64 x.turn] := fun n =>
  (rb.below (bdrewN (Below.refl _ _) n)).other (by omega) 7 _
 have h4p := Lib.hid h4.mp.lt
 have h4o := Lib.hid h4.low
 have h4b : Hid (∀ j, OB X.a0 n0 X.c0 = some j → j < w.heap.size) := fun j hj => by
  rw [hn0] at hj
  exact (OwnR.lt h4.own0 hj).2
 replace hB := Lib.hid hB
 replace rB := Lib.hid rB
 replace hn0 := Lib.hid hn0
 replace hn1 := Lib.hid hn1
 replace hm := Lib.hid hm
 replace hm1 := Lib.hid hm1
 replace hdm := Lib.hid hdm
 replace h1 := Lib.hid h1
 replace h2 := Lib.hid h2
 replace l0 := Lib.hid l0
 replace l1 := Lib.hid l1
 replace hP := Lib.hid hP
 replace lt := Lib.hid lt
 have hdm2 : (sd < m1 ∧ dm = m1) ∨ (¬ sd < m1 ∧ dm = sd) := by have := hdm.out; omega
 clear hr hA rb h4 hd
 have hdm3 := hdm
 clear hdm
 rcases hdm2 with ⟨hmx, hdm2⟩ | ⟨hmx, hdm2⟩
 case' inl => obtain rfl : dm = m1 := hdm2
 case' inr => obtain rfl : dm = sd := hdm2
 all_goals (
  go_enter Try.func79, Try.ntmps79
  go_wp2
  go_quiet (fail)
  clear e1 e2 c10 c11
  go_wp2
  have hB2 := hB.out nq
  have rB2 := rB.out nq
  generalize (((w.alloc (.cells #[.int .i64 x.node, .int .i64 x.state, .int .i64 x.turn] TPP)).drewN nq).setCell ⟨sB, 7, none⟩ (.int .i64 (dm : Int))) = w2 at hB2 rB2 ⊢
  clear hB rB
  have r2 := hB2.row
  unfold srow at r2
  rw [← hn0.out, ← hn1.out] at r2
  have d12 : w2.cell? ⟨sB, 12, none⟩ = some (.map (some X.mp)) := r2.cell 12
  have d10 : w2.cell? ⟨sB, 10, none⟩ = some (.slice X.a0 n0 X.c0) := r2.cell 10
  have x0 : w2.cell? ⟨w.heap.size, 0, none⟩ = some (.int .i64 x.node) := rB2.cell 0
  have x1 : w2.cell? ⟨w.heap.size, 1, none⟩ = some (.int .i64 x.state) := rB2.cell 1
  have x2 : w2.cell? ⟨w.heap.size, 2, none⟩ = some (.int .i64 x.turn) := rB2.cell 2
  obtain ⟨w3, hrun, hm3, hg3⟩ := (hB2.below (Below.refl _ _).drew).mp.put hp hx (by omega) (by rw [way_len]; omega)
  rw [way_len, ← l0.out, ← hn0.out] at hrun
  simp only [ppv] at hrun
  have hapart := hB2.apart
  have hB3 := Lib.hid ((hB2.below (Below.refl _ _).drew).putP hg3 hm3)
  have hmpl : X.mp ≠ w.heap.size := by have := h4p.out; omega
  have rB3 := Lib.hid ((rB2.below (Below.refl _ _).drew).keeps (Keeps.of_grown (S := fun j => j = X.mp) hg3 (fun j e => by cases e; rfl)) (fun e => hmpl e.symm))
  clear hB2 rB2 hm3 hg3 r2 hapart
  go_region
  go_wp2
  clear d12 d10 x0 x1 x2 hrun
  have hxl : w.heap.size < w3.heap.size := rB3.out.lt
  have hsl3 : sB < w3.heap.size := hB3.out.hs.2
  have SX : Hid (∀ v, RowAt v w.heap.size TPP [.int .i64 x.node, .int .i64 x.state, .int .i64 x.turn] → v.cell? ⟨sB, 0, none⟩ = some (.pointer (some ⟨p, 0, none⟩)) → v.cell? ⟨sB, 0, none⟩ = some (.pointer (some ⟨p, 0, none⟩)) ∧ v.cell? ⟨w.heap.size, 0, none⟩ = some (.int .i64 x.node) ∧ v.cell? ⟨w.heap.size, 1, none⟩ = some (.int .i64 x.state) ∧ v.cell? ⟨w.heap.size, 2, none⟩ = some (.int .i64 x.turn)) := fun v h hp => ⟨hp, h.cell 0, h.cell 1, h.cell 2⟩
  have K0 : Hid (∀ v, Below w3.heap.size w3 v → v.cell? ⟨sB, 0, none⟩ = some (.pointer (some ⟨p, 0, none⟩)) ∧ v.cell? ⟨w.heap.size, 0, none⟩ = some (.int .i64 x.node) ∧ v.cell? ⟨w.heap.size, 1, none⟩ = some (.int .i64 x.state) ∧ v.cell? ⟨w.heap.size, 2, none⟩ = some (.int .i64 x.turn)) := fun v hb => SX.out v (rB3.out.below hb) (bcell hb (hB3.out.row.cell 0))
  have NX := Lib.hid (fun v (hb : Below w3.heap.size w3 v) => next_any v p G sets A (hP.out.below (btrans hB3.out.low hb)) lt.out x)
  have d10 : w3.cell? ⟨sB, 10, none⟩ = some (.slice X.a0 n0 X.c0) := by
   have h := hB3.out.row.cell 10
   rw [h]
   simp only [srow, ← hn0.out, ← hn1.out]
   rfl
  have hnx : (nextP G sets A x).length ≤ 144 := nextP_len lt.out x
  obtain ⟨nl, hnl⟩ : ∃ nl, nl = (nextP G sets A x).length := ⟨_, rfl⟩
  have T6 : Hid (∀ v an cn, Below w3.heap.size w3 v → OwnQ v w3.heap.size TPP an cn (nextP G sets A x) → v.cell? ⟨sB, 10, none⟩ = some (.slice X.a0 n0 X.c0) ∧ (v.alloc (.cells #[.int .i64 x.node, .int .i64 x.state, .int .i64 x.turn, .slice an nl cn, .int .i64 0] TSp)).cell? ⟨sB, 10, none⟩ = some (.slice X.a0 n0 X.c0) ∧ sB < v.heap.size ∧ w.heap.size < v.heap.size ∧ OwnR (v.alloc (.cells #[.int .i64 x.node, .int .i64 x.state, .int .i64 x.turn, .slice an nl cn, .int .i64 0] TSp)) W.heap.size TSp 5 X.a0 n0 X.c0 (spcells (nextP G sets A) S0) ∧ (∀ j u, [Value.int .i64 x.node, .int .i64 x.state, .int .i64 x.turn, .slice an nl cn, .int .i64 0][j]? = some u → (v.alloc (.cells #[.int .i64 x.node, .int .i64 x.state, .int .i64 x.turn, .slice an nl cn, .int .i64 0] TSp)).cell? ((⟨v.heap.size, 0, none⟩ : Addr).add j) = some u) ∧ (∀ u ∈ [Value.int .i64 x.node, .int .i64 x.state, .int .i64 x.turn, .slice an nl cn, .int .i64 0], u.oneCell' = true) ∧ W.heap.size ≤ (v.alloc (.cells #[.int .i64 x.node, .int .i64 x.state, .int .i64 x.turn, .slice an nl cn, .int .i64 0] TSp)).heap.size) := fun v an cn hb hq => by
   have hA : Below v.heap.size v (v.alloc (.cells #[.int .i64 x.node, .int .i64 x.state, .int .i64 x.turn, .slice an nl cn, .int .i64 0] TSp)) := balloc (Below.refl _ _) _
   have d1 := bcell hb d10
   have hz := hb.size
   have hz2 := hA.size
   have hz3 := hB3.out.low.size
   refine ⟨d1, bcell hA d1, by omega, by omega, ?_, new_cells v #[.int .i64 x.node, .int .i64 x.state, .int .i64 x.turn, .slice an nl cn, .int .i64 0] TSp rfl, fun u hu => by simp at hu; rcases hu with rfl | rfl | rfl | rfl | rfl <;> rfl, by omega⟩
   have h := ((hB3.out.below hb).below hA).own0
   rw [← hn0.out] at h
   exact h
  have n5 : Hid (n0 + 1 ≤ maxLen) := by show _ ≤ _; unfold maxLen; omega
  have y5 : Hid ((n0 + 1) * 56 ≤ 140737488355328) := by show _ ≤ _; omega
  have T7 : Hid (∀ v an cn, Below w3.heap.size w3 v → OwnQ v w3.heap.size TPP an cn (nextP G sets A x) → ∀ a' c' v', OwnR v' W.heap.size TSp 5 a' (n0 + 1) c' (spcells (nextP G sets A) S0 ++ [.int .i64 x.node, .int .i64 x.state, .int .i64 x.turn, .slice an nl cn, .int .i64 0]) → (v.alloc (.cells #[.int .i64 x.node, .int .i64 x.state, .int .i64 x.turn, .slice an nl cn, .int .i64 0] TSp)).grownBy v' (OB X.a0 n0 X.c0) → (OB a' (n0 + 1) c' = OB X.a0 n0 X.c0 ∨ OB a' (n0 + 1) c' = some (v.alloc (.cells #[.int .i64 x.node, .int .i64 x.state, .int .i64 x.turn, .slice an nl cn, .int .i64 0] TSp)).heap.size) →
    SrAt W sB Z (nextP G sets A) { { X with pn := X.pn + 1 } with a0 := a', c0 := c' } (S0 ++ [((x, 0), an, cn)]) S1 (way sot ++ [x]) sre sma (srow p b 0 0 sn se dm (.slice none 0 0) (.slice none 0 0) X S0.length S1.length) v' ∧ RowAt v' w.heap.size TPP [.int .i64 x.node, .int .i64 x.state, .int .i64 x.turn]) := fun v an cn hb hq a' c' v' ho hg hat => by
   have hA : Below v.heap.size v (v.alloc (.cells #[.int .i64 x.node, .int .i64 x.state, .int .i64 x.turn, .slice an nl cn, .int .i64 0] TSp)) := balloc (Below.refl _ _) _
   have hb2 : Below w3.heap.size w3 (v.alloc (.cells #[.int .i64 x.node, .int .i64 x.state, .int .i64 x.turn, .slice an nl cn, .int .i64 0] TSp)) := btrans hb hA
   have hlow0 := h4o.out
   refine ⟨SrAt.push0 (e := ((x, 0), an, cn)) hB3.out hb2 ((PpsAt.of_own hq).below hA) (fun ad had => ?_) ?_ ?_ ?_, ?_⟩
   ·have hj : OB an (nextP G sets A x).length cn = some ad.block := by
     have had' : an = some ad := had
     rw [had']; rfl
    have := OwnR.lt hq hj
    have := hA.size
    omega
   ·show OwnR v' W.heap.size TSp 5 a' (S0.length + 1) c' (spcells (nextP G sets A) S0 ++ [.int .i64 x.node, .int .i64 x.state, .int .i64 x.turn, .slice an (nextP G sets A x).length cn, .int .i64 0])
    rw [← hn0.out, ← hnl]
    exact ho
   ·rw [← hn0.out]; exact hg
   ·rw [← hn0.out]; exact hat
   ·refine ((rB3.out.below hb2)).keeps (Keeps.of_grown (S := fun j => OB X.a0 n0 X.c0 = some j) hg (fun j e => e)) (fun e => ?_)
    have := h4b.out _ e
    omega
  replace hnl := Lib.hid hnl
  refine wp_region_held_drew (S := (fun w' => w'.cell? ⟨sB, 0, none⟩ = some (.pointer (some ⟨p, 0, none⟩)) ∧ w'.cell? ⟨w.heap.size, 0, none⟩ = some (.int .i64 x.node) ∧ w'.cell? ⟨w.heap.size, 1, none⟩ = some (.int .i64 x.state) ∧ w'.cell? ⟨w.heap.size, 2, none⟩ = some (.int .i64 x.turn))) (by kernel_rfl) (K0.out _ (Below.refl _ _).drew) (fun hHeld => ?_)
  refine wpAnyH_take (i := 0) (oi := ({ dst := some 63, op := .move (.tmp 0), type := 103, pos := "ndfs.go:54", after := #[], guard := none } : Oper)) (v := ?_) rfl (by kernel_rfl) (by kernel_rfl) (by kernel_rfl) (fun _ _ _ h => h) (Or.inl ⟨by rfl, ?_⟩) (by assumption) ?_
  case refine_2 => (intro w hSw; (try dsimp only at hSw); go_simp; try with_reducible rfl)
  try simp only [Act.put, zsA, zsZ, zsS]
  refine wpAnyH_take (i := 1) (oi := ({ dst := some 64, op := .move (.tmp 1), type := 3, pos := "ndfs.go:54", after := #[], guard := none } : Oper)) (v := ?_) rfl (by kernel_rfl) (by kernel_rfl) (by kernel_rfl) (fun _ _ _ h => h) (Or.inl ⟨by rfl, ?_⟩) (by assumption) ?_
  case refine_2 => (intro w hSw; (try dsimp only at hSw); go_simp; try with_reducible rfl)
  try simp only [Act.put, zsA, zsZ, zsS]
  refine wpAnyH_take (i := 2) (oi := ({ dst := some 65, op := .move (.tmp 0), type := 103, pos := "ndfs.go:54", after := #[], guard := none } : Oper)) (v := ?_) rfl (by kernel_rfl) (by kernel_rfl) (by kernel_rfl) (fun _ _ _ h => h) (Or.inl ⟨by rfl, ?_⟩) (by assumption) ?_
  case refine_2 => (intro w hSw; (try dsimp only at hSw); go_simp; try with_reducible rfl)
  try simp only [Act.put, zsA, zsZ, zsS]
  refine wpAnyH_take (i := 3) (oi := ({ dst := some 66, op := .move (.tmp 1), type := 3, pos := "ndfs.go:54", after := #[], guard := none } : Oper)) (v := ?_) rfl (by kernel_rfl) (by kernel_rfl) (by kernel_rfl) (fun _ _ _ h => h) (Or.inl ⟨by rfl, ?_⟩) (by assumption) ?_
  case refine_2 => (intro w hSw; (try dsimp only at hSw); go_simp; try with_reducible rfl)
  try simp only [Act.put, zsA, zsZ, zsS]
  refine wpAnyH_take (i := 4) (oi := ({ dst := some 67, op := .nilCheck (.tmp 65), type := 0, pos := "ndfs.go:54", after := #[{ on := 2, ground := .data }], guard := none } : Oper)) (v := ?_) rfl (by kernel_rfl) (by kernel_rfl) (by kernel_rfl) (fun _ _ _ h => h) (Or.inl ⟨by rfl, ?_⟩) (by assumption) ?_
  case refine_2 => (intro w hSw; (try dsimp only at hSw); go_simp; try with_reducible rfl)
  try simp only [Act.put, zsA, zsZ, zsS]
  refine wpAnyH_take (i := 5) (oi := ({ dst := some 68, op := .fieldAddr 109 (.tmp 67) 3, type := 0, pos := "ndfs.go:54", after := #[{ on := 4, ground := .data }], guard := none } : Oper)) (v := ?_) rfl (by kernel_rfl) (by kernel_rfl) (by kernel_rfl) (fun _ _ _ h => h) (Or.inl ⟨by rfl, ?_⟩) (by assumption) ?_
  case refine_2 => (intro w hSw; (try dsimp only at hSw); go_simp; try with_reducible rfl)
  try simp only [Act.put, zsA, zsZ, zsS]
  refine wpAnyH_take (i := 6) (oi := ({ dst := some 69, op := .indexAddr 107 (.tmp 68) (.tmp 66), type := 0, pos := "ndfs.go:54", after := #[{ on := 5, ground := .data }, { on := 3, ground := .data }], guard := none } : Oper)) (v := ?_) rfl (by kernel_rfl) (by kernel_rfl) (by kernel_rfl) (fun _ _ _ h => h) (Or.inl ⟨by rfl, ?_⟩) (by assumption) ?_
  case refine_2 => (intro w hSw; (try dsimp only at hSw); go_simp; try with_reducible rfl)
  try simp only [Act.put, zsA, zsZ, zsS]
  refine wpAnyH_take (i := 8) (oi := ({ dst := some 71, op := .load 82 (.tmp 5), type := 82, pos := "ndfs.go:54", after := #[], guard := none } : Oper)) (v := ?_) rfl (by kernel_rfl) (by kernel_rfl) (by kernel_rfl) (fun _ _ _ h => h) (Or.inl ⟨by rfl, ?_⟩) (by assumption) ?_
  case refine_2 => (intro w hSw; (try dsimp only at hSw); go_simp; try with_reducible rfl)
  try simp only [Act.put, zsA, zsZ, zsS]
  refine wpAnyH_take (i := 9) (oi := ({ dst := some 72, op := .move (.tmp 0), type := 103, pos := "ndfs.go:54", after := #[], guard := none } : Oper)) (v := ?_) rfl (by kernel_rfl) (by kernel_rfl) (by kernel_rfl) (fun _ _ _ h => h) (Or.inl ⟨by rfl, ?_⟩) (by assumption) ?_
  case refine_2 => (intro w hSw; (try dsimp only at hSw); go_simp; try with_reducible rfl)
  try simp only [Act.put, zsA, zsZ, zsS]
  refine wpAnyH_take (i := 10) (oi := ({ dst := some 73, op := .nilCheck (.tmp 72), type := 0, pos := "ndfs.go:54", after := #[{ on := 9, ground := .data }], guard := none } : Oper)) (v := ?_) rfl (by kernel_rfl) (by kernel_rfl) (by kernel_rfl) (fun _ _ _ h => h) (Or.inl ⟨by rfl, ?_⟩) (by assumption) ?_
  case refine_2 => (intro w hSw; (try dsimp only at hSw); go_simp; try with_reducible rfl)
  try simp only [Act.put, zsA, zsZ, zsS]
  refine wpAnyH_take (i := 11) (oi := ({ dst := some 74, op := .fieldAddr 109 (.tmp 73) 0, type := 0, pos := "ndfs.go:54", after := #[{ on := 10, ground := .data }], guard := none } : Oper)) (v := ?_) rfl (by kernel_rfl) (by kernel_rfl) (by kernel_rfl) (fun _ _ _ h => h) (Or.inl ⟨by rfl, ?_⟩) (by assumption) ?_
  case refine_2 => (intro w hSw; (try dsimp only at hSw); go_simp; try with_reducible rfl)
  try simp only [Act.put, zsA, zsZ, zsS]
  refine wpAnyH_take (i := 12) (oi := ({ dst := some 75, op := .load 41 (.tmp 74), type := 41, pos := "ndfs.go:54", after := #[{ on := 11, ground := .data }], guard := none } : Oper)) (v := ?_) rfl (by kernel_rfl) (by kernel_rfl) (by kernel_rfl) (fun _ _ _ h => h) (Or.inl ⟨by rfl, ?_⟩) (by assumption) ?_
  case refine_2 => (intro w hSw; (try dsimp only at hSw); go_simp; try with_reducible rfl)
  try simp only [Act.put, zsA, zsZ, zsS]
  refine wpAnyH_take (i := 13) (oi := ({ dst := some 76, op := .load 82 (.tmp 5), type := 82, pos := "ndfs.go:54", after := #[], guard := none } : Oper)) (v := ?_) rfl (by kernel_rfl) (by kernel_rfl) (by kernel_rfl) (fun _ _ _ h => h) (Or.inl ⟨by rfl, ?_⟩) (by assumption) ?_
  case refine_2 => (intro w hSw; (try dsimp only at hSw); go_simp; try with_reducible rfl)
  try simp only [Act.put, zsA, zsZ, zsS]
  refine wpAnyH_take (i := 18) (oi := ({ dst := some 81, op := .nilCheck (.tmp 63), type := 0, pos := "ndfs.go:54", after := #[{ on := 0, ground := .data }], guard := none } : Oper)) (v := ?_) rfl (by kernel_rfl) (by kernel_rfl) (by kernel_rfl) (fun _ _ _ h => h) (Or.inl ⟨by rfl, ?_⟩) (by assumption) ?_
  case refine_2 => (intro w hSw; (try dsimp only at hSw); go_simp; try with_reducible rfl)
  try simp only [Act.put, zsA, zsZ, zsS]
  refine wpAnyH_take (i := 19) (oi := ({ dst := some 82, op := .fieldAddr 109 (.tmp 81) 3, type := 0, pos := "ndfs.go:54", after := #[{ on := 18, ground := .data }], guard := none } : Oper)) (v := ?_) rfl (by kernel_rfl) (by kernel_rfl) (by kernel_rfl) (fun _ _ _ h => h) (Or.inl ⟨by rfl, ?_⟩) (by assumption) ?_
  case refine_2 => (intro w hSw; (try dsimp only at hSw); go_simp; try with_reducible rfl)
  try simp only [Act.put, zsA, zsZ, zsS]
  refine wpAnyH_ready (rs := [7, 14]) (by kernel_rfl) (by simp) ?_
  refine AllReadyH.cons (o := ({ dst := some 70, op := .load 106 (.tmp 69), type := 106, pos := "ndfs.go:54", after := #[{ on := 6, ground := .data }], guard := none } : Oper)) rfl (fun K hK => ?_) (AllReadyH.cons (o := ({ dst := some 77, op := .call { callee := .value (.func 82), args := #[.tmp 75, .tmp 76], argTypes := #[41, 82] }, type := 48, pos := "ndfs.go:54", after := #[{ on := 12, ground := .data }, { on := 13, ground := .data }], guard := none } : Oper)) rfl (fun K hK => ?_) AllReadyH.nil)
  ·go_simp
   clear hHeld
   refine hK.out _ _ (K0.out _ (Below.refl _ _).drew) (fun hHeld => ?_)
   clear hK K
   try simp only [Act.put, zsA, zsZ, zsS]
   refine wpAnyH_ready (rs := [14]) (by kernel_rfl) (by simp) ?_
   refine AllReadyH.cons (o := ({ dst := some 77, op := .call { callee := .value (.func 82), args := #[.tmp 75, .tmp 76], argTypes := #[41, 82] }, type := 48, pos := "ndfs.go:54", after := #[{ on := 12, ground := .data }, { on := 13, ground := .data }], guard := none } : Oper)) rfl (fun K hK => ?_) AllReadyH.nil
   go_simp
   go_at_call 82
   (with_reducible refine (NX.out _ (Below.refl _ _).drew).mono ?_)
   rintro e w6 ⟨an, cn, rfl, hq6, hb6⟩
   have hB6 : Below w3.heap.size w3 w6 := ⟨hb6.os, hb6.tape, hb6.output, hb6.size, hb6.block⟩
   have hQ6 : OwnQ w6 w3.heap.size TPP an cn (nextP G sets A x) := hq6
   obtain ⟨d6, d6a, hs6, hx6, OW, nc, oc, hBA⟩ := T6.out w6 an cn hB6 hQ6
   have T7' := Lib.hid (T7.out w6 an cn hB6 hQ6)
   replace OW := Lib.hid OW
   replace nc := Lib.hid nc
   replace oc := Lib.hid oc
   replace hBA := Lib.hid hBA
   rw [← hnl.out]
   clear hHeld
   refine hK.out _ _ (K0.out _ hB6) (fun hHeld => ?_)
   clear hK K
   try simp only [Act.put, zsA, zsZ, zsS]
   refine wpAnyH_take (i := 15) (oi := ({ dst := some 78, op := .build 143 #[(0, .tmp 71), (1, .tmp 77)], type := 143, pos := "ndfs.go:54", after := #[{ on := 8, ground := .data }, { on := 14, ground := .data }], guard := none } : Oper)) (v := ?_) rfl (by kernel_rfl) (by kernel_rfl) (by kernel_rfl) (fun _ _ _ h => h) (Or.inl ⟨by rfl, ?_⟩) (by assumption) ?_
   case refine_2 => (intro w hSw; (try dsimp only at hSw); go_simp; try with_reducible rfl)
   try simp only [Act.put, zsA, zsZ, zsS]
   refine wpAnyH_ready (rs := [16]) (by kernel_rfl) (by simp) ?_
   refine AllReadyH.cons (o := ({ dst := some 79, op := .buildSlice 106 1 #[(0, .tmp 78)], type := 106, pos := "ndfs.go:54", after := #[{ on := 15, ground := .data }], guard := none } : Oper)) rfl (fun K hK => ?_) AllReadyH.nil
   go_simp
   clear hHeld
   refine hK.out _ _ (K0.out _ (btrans hB6 (balloc (Below.refl _ _) _))) (fun hHeld => ?_)
   clear hK K
   try simp only [Act.put, zsA, zsZ, zsS]
   refine wpAnyH_ready (rs := [17]) (by kernel_rfl) (by simp) ?_
   refine AllReadyH.cons (o := ({ dst := some 80, op := .call { callee := .builtin .append, args := #[.tmp 70, .tmp 79], argTypes := #[106, 106] }, type := 106, pos := "ndfs.go:54", after := #[{ on := 7, ground := .data }, { on := 16, ground := .data }, { on := 14, ground := .chain }], guard := none } : Oper)) rfl (fun K hK => ?_) AllReadyH.nil
   (refine step_appR ?_ (.tmp 70) (.tmp 79) 106 TSp (.agg #[.int .i64 0, .int .i64 0, .int .i64 0, .slice none 0 0, .int .i64 0]) 5 56 ?_ Try.underlying106 infoSp rfl (by decide) W.heap.size X.a0 n0 X.c0 (spcells (nextP G sets A) S0) ?_ OW.out w6.heap.size 1 [.int .i64 x.node, .int .i64 x.state, .int .i64 x.turn, .slice an nl cn, .int .i64 0] ?_ rfl nc.out oc.out n5.out y5.out hBA.out ?_; exact rfl; exact rfl; exact rfl; exact rfl; intro a' c' w7 ho7 hg7 hat7)
   obtain ⟨st7, rB7⟩ := T7'.out a' c' w7 ho7 hg7 hat7
   have f7' := st7.row.free 10
   have d7 : w7.cell? ⟨sB, 10, none⟩ = some (.slice X.a0 n0 X.c0) := by (rw [st7.row.cell 10]; simp only [srow, ← hn0.out, ← hn1.out]; rfl)
   have hs7 : sB < w7.heap.size := st7.hs.2
   have c70 : w7.cell? ⟨sB, 0, none⟩ = some (.pointer (some ⟨p, 0, none⟩)) := st7.row.cell 0
   have S8 := Lib.hid (SX.out _ (rB7.other (b := sB) (by omega) 10 (.slice a' (n0 + 1) c')) ((st7.set 10 (.slice a' (n0 + 1) c')).row.cell 0))
   replace st7 := Lib.hid st7
   replace rB7 := Lib.hid rB7
   clear hHeld
   refine hK.out _ _ (SX.out _ rB7.out c70) (fun hHeld => ?_)
   clear hK K
   try simp only [Act.put, zsA, zsZ, zsS]
   refine wpAnyH_take (i := 20) (oi := ({ dst := some 83, op := .indexAddr 107 (.tmp 82) (.tmp 64), type := 0, pos := "ndfs.go:54", after := #[{ on := 19, ground := .data }, { on := 1, ground := .data }, { on := 0, ground := .phase }, { on := 1, ground := .phase }, { on := 2, ground := .phase }, { on := 3, ground := .phase }, { on := 4, ground := .phase }, { on := 5, ground := .phase }, { on := 6, ground := .phase }, { on := 7, ground := .phase }, { on := 8, ground := .phase }, { on := 9, ground := .phase }, { on := 10, ground := .phase }, { on := 11, ground := .phase }, { on := 12, ground := .phase }, { on := 13, ground := .phase }, { on := 14, ground := .phase }, { on := 15, ground := .phase }, { on := 16, ground := .phase }, { on := 17, ground := .phase }], guard := none } : Oper)) (v := ?_) rfl (by kernel_rfl) (by kernel_rfl) (by kernel_rfl) (fun _ _ _ h => h) (Or.inl ⟨by rfl, ?_⟩) (by assumption) ?_
   case refine_2 => (intro w hSw; (try dsimp only at hSw); go_simp; try with_reducible rfl)
   try simp only [Act.put, zsA, zsZ, zsS]
   refine wpAnyH_ready (rs := [21]) (by kernel_rfl) (by simp) ?_
   refine AllReadyH.cons (o := ({ dst := none, op := .store 106 (.tmp 83) (.tmp 80), type := 0, pos := "ndfs.go:54", after := #[{ on := 20, ground := .data }, { on := 17, ground := .data }, { on := 17, ground := .chain }, { on := 0, ground := .phase }, { on := 1, ground := .phase }, { on := 2, ground := .phase }, { on := 3, ground := .phase }, { on := 4, ground := .phase }, { on := 5, ground := .phase }, { on := 6, ground := .phase }, { on := 7, ground := .phase }, { on := 8, ground := .phase }, { on := 9, ground := .phase }, { on := 10, ground := .phase }, { on := 11, ground := .phase }, { on := 12, ground := .phase }, { on := 13, ground := .phase }, { on := 14, ground := .phase }, { on := 15, ground := .phase }, { on := 16, ground := .phase }, { on := 17, ground := .phase }], guard := none } : Oper)) rfl (fun K hK => ?_) AllReadyH.nil
   go_simp
   clear hHeld
   refine hK.out _ _ (S8.out) (fun hHeld => ?_)
   clear hK K
   try simp only [Act.put, zsA, zsZ, zsS]
   refine wpAnyH_done (by kernel_rfl) ?_ _
   clear hHeld OW nc oc hBA T6 T7 T7' n5 y5 SX K0 NX d6 d6a d7 f7' c70 S8 d10
   go_wp2
   go_ret
   exact ⟨rfl, ⟨{ { X with pn := X.pn + 1 } with a0 := a', c0 := c' }, S0 ++ [((x, 0), an, cn)], S1, by rw [List.map_append, h1.out]; simp [pushS], h2.out, ⟨by show X.pn + 1 ≤ k + 1; omega, hkp _ _ _⟩, (by have h := st7.out.set 10 (.slice a' (n0 + 1) c'); rw [show way sot ++ [x] = way ((x, 0) :: sot) from (way_cons (x, 0) sot).symm] at h; exact (fin0 h (by have := hdm3.out; have := hm1.out; have := hm.out; have := hn0.out; have := hn1.out; have := l0.out; have := l1.out; omega) hn0.out))⟩⟩
  ·go_simp
   go_at_call 82
   (with_reducible refine (NX.out _ (Below.refl _ _).drew).mono ?_)
   rintro e w6 ⟨an, cn, rfl, hq6, hb6⟩
   have hB6 : Below w3.heap.size w3 w6 := ⟨hb6.os, hb6.tape, hb6.output, hb6.size, hb6.block⟩
   have hQ6 : OwnQ w6 w3.heap.size TPP an cn (nextP G sets A x) := hq6
   obtain ⟨d6, d6a, hs6, hx6, OW, nc, oc, hBA⟩ := T6.out w6 an cn hB6 hQ6
   have T7' := Lib.hid (T7.out w6 an cn hB6 hQ6)
   replace OW := Lib.hid OW
   replace nc := Lib.hid nc
   replace oc := Lib.hid oc
   replace hBA := Lib.hid hBA
   rw [← hnl.out]
   clear hHeld
   refine hK.out _ _ (K0.out _ hB6) (fun hHeld => ?_)
   clear hK K
   try simp only [Act.put, zsA, zsZ, zsS]
   refine wpAnyH_take (i := 15) (oi := ({ dst := some 78, op := .build 143 #[(0, .tmp 71), (1, .tmp 77)], type := 143, pos := "ndfs.go:54", after := #[{ on := 8, ground := .data }, { on := 14, ground := .data }], guard := none } : Oper)) (v := ?_) rfl (by kernel_rfl) (by kernel_rfl) (by kernel_rfl) (fun _ _ _ h => h) (Or.inl ⟨by rfl, ?_⟩) (by assumption) ?_
   case refine_2 => (intro w hSw; (try dsimp only at hSw); go_simp; try with_reducible rfl)
   try simp only [Act.put, zsA, zsZ, zsS]
   refine wpAnyH_ready (rs := [7, 16]) (by kernel_rfl) (by simp) ?_
   refine AllReadyH.cons (o := ({ dst := some 70, op := .load 106 (.tmp 69), type := 106, pos := "ndfs.go:54", after := #[{ on := 6, ground := .data }], guard := none } : Oper)) rfl (fun K hK => ?_) (AllReadyH.cons (o := ({ dst := some 79, op := .buildSlice 106 1 #[(0, .tmp 78)], type := 106, pos := "ndfs.go:54", after := #[{ on := 15, ground := .data }], guard := none } : Oper)) rfl (fun K hK => ?_) AllReadyH.nil)
   ·go_simp
    clear hHeld
    refine hK.out _ _ (K0.out _ hB6) (fun hHeld => ?_)
    clear hK K
    try simp only [Act.put, zsA, zsZ, zsS]
    refine wpAnyH_ready (rs := [16]) (by kernel_rfl) (by simp) ?_
    refine AllReadyH.cons (o := ({ dst := some 79, op := .buildSlice 106 1 #[(0, .tmp 78)], type := 106, pos := "ndfs.go:54", after := #[{ on := 15, ground := .data }], guard := none } : Oper)) rfl (fun K hK => ?_) AllReadyH.nil
    go_simp
    clear hHeld
    refine hK.out _ _ (K0.out _ (btrans hB6 (balloc (Below.refl _ _) _))) (fun hHeld => ?_)
    clear hK K
    try simp only [Act.put, zsA, zsZ, zsS]
    refine wpAnyH_ready (rs := [17]) (by kernel_rfl) (by simp) ?_
    refine AllReadyH.cons (o := ({ dst := some 80, op := .call { callee := .builtin .append, args := #[.tmp 70, .tmp 79], argTypes := #[106, 106] }, type := 106, pos := "ndfs.go:54", after := #[{ on := 7, ground := .data }, { on := 16, ground := .data }, { on := 14, ground := .chain }], guard := none } : Oper)) rfl (fun K hK => ?_) AllReadyH.nil
    (refine step_appR ?_ (.tmp 70) (.tmp 79) 106 TSp (.agg #[.int .i64 0, .int .i64 0, .int .i64 0, .slice none 0 0, .int .i64 0]) 5 56 ?_ Try.underlying106 infoSp rfl (by decide) W.heap.size X.a0 n0 X.c0 (spcells (nextP G sets A) S0) ?_ OW.out w6.heap.size 1 [.int .i64 x.node, .int .i64 x.state, .int .i64 x.turn, .slice an nl cn, .int .i64 0] ?_ rfl nc.out oc.out n5.out y5.out hBA.out ?_; exact rfl; exact rfl; exact rfl; exact rfl; intro a' c' w7 ho7 hg7 hat7)
    obtain ⟨st7, rB7⟩ := T7'.out a' c' w7 ho7 hg7 hat7
    have f7' := st7.row.free 10
    have d7 : w7.cell? ⟨sB, 10, none⟩ = some (.slice X.a0 n0 X.c0) := by (rw [st7.row.cell 10]; simp only [srow, ← hn0.out, ← hn1.out]; rfl)
    have hs7 : sB < w7.heap.size := st7.hs.2
    have c70 : w7.cell? ⟨sB, 0, none⟩ = some (.pointer (some ⟨p, 0, none⟩)) := st7.row.cell 0
    have S8 := Lib.hid (SX.out _ (rB7.other (b := sB) (by omega) 10 (.slice a' (n0 + 1) c')) ((st7.set 10 (.slice a' (n0 + 1) c')).row.cell 0))
    replace st7 := Lib.hid st7
    replace rB7 := Lib.hid rB7
    clear hHeld
    refine hK.out _ _ (SX.out _ rB7.out c70) (fun hHeld => ?_)
    clear hK K
    try simp only [Act.put, zsA, zsZ, zsS]
    refine wpAnyH_take (i := 20) (oi := ({ dst := some 83, op := .indexAddr 107 (.tmp 82) (.tmp 64), type := 0, pos := "ndfs.go:54", after := #[{ on := 19, ground := .data }, { on := 1, ground := .data }, { on := 0, ground := .phase }, { on := 1, ground := .phase }, { on := 2, ground := .phase }, { on := 3, ground := .phase }, { on := 4, ground := .phase }, { on := 5, ground := .phase }, { on := 6, ground := .phase }, { on := 7, ground := .phase }, { on := 8, ground := .phase }, { on := 9, ground := .phase }, { on := 10, ground := .phase }, { on := 11, ground := .phase }, { on := 12, ground := .phase }, { on := 13, ground := .phase }, { on := 14, ground := .phase }, { on := 15, ground := .phase }, { on := 16, ground := .phase }, { on := 17, ground := .phase }], guard := none } : Oper)) (v := ?_) rfl (by kernel_rfl) (by kernel_rfl) (by kernel_rfl) (fun _ _ _ h => h) (Or.inl ⟨by rfl, ?_⟩) (by assumption) ?_
    case refine_2 => (intro w hSw; (try dsimp only at hSw); go_simp; try with_reducible rfl)
    try simp only [Act.put, zsA, zsZ, zsS]
    refine wpAnyH_ready (rs := [21]) (by kernel_rfl) (by simp) ?_
    refine AllReadyH.cons (o := ({ dst := none, op := .store 106 (.tmp 83) (.tmp 80), type := 0, pos := "ndfs.go:54", after := #[{ on := 20, ground := .data }, { on := 17, ground := .data }, { on := 17, ground := .chain }, { on := 0, ground := .phase }, { on := 1, ground := .phase }, { on := 2, ground := .phase }, { on := 3, ground := .phase }, { on := 4, ground := .phase }, { on := 5, ground := .phase }, { on := 6, ground := .phase }, { on := 7, ground := .phase }, { on := 8, ground := .phase }, { on := 9, ground := .phase }, { on := 10, ground := .phase }, { on := 11, ground := .phase }, { on := 12, ground := .phase }, { on := 13, ground := .phase }, { on := 14, ground := .phase }, { on := 15, ground := .phase }, { on := 16, ground := .phase }, { on := 17, ground := .phase }], guard := none } : Oper)) rfl (fun K hK => ?_) AllReadyH.nil
    go_simp
    clear hHeld
    refine hK.out _ _ (S8.out) (fun hHeld => ?_)
    clear hK K
    try simp only [Act.put, zsA, zsZ, zsS]
    refine wpAnyH_done (by kernel_rfl) ?_ _
    clear hHeld OW nc oc hBA T6 T7 T7' n5 y5 SX K0 NX d6 d6a d7 f7' c70 S8 d10
    go_wp2
    go_ret
    exact ⟨rfl, ⟨{ { X with pn := X.pn + 1 } with a0 := a', c0 := c' }, S0 ++ [((x, 0), an, cn)], S1, by rw [List.map_append, h1.out]; simp [pushS], h2.out, ⟨by show X.pn + 1 ≤ k + 1; omega, hkp _ _ _⟩, (by have h := st7.out.set 10 (.slice a' (n0 + 1) c'); rw [show way sot ++ [x] = way ((x, 0) :: sot) from (way_cons (x, 0) sot).symm] at h; exact (fin0 h (by have := hdm3.out; have := hm1.out; have := hm.out; have := hn0.out; have := hn1.out; have := l0.out; have := l1.out; omega) hn0.out))⟩⟩
   ·go_simp
    clear hHeld
    refine hK.out _ _ (K0.out _ (btrans hB6 (balloc (Below.refl _ _) _))) (fun hHeld => ?_)
    clear hK K
    try simp only [Act.put, zsA, zsZ, zsS]
    refine wpAnyH_ready (rs := [7]) (by kernel_rfl) (by simp) ?_
    refine AllReadyH.cons (o := ({ dst := some 70, op := .load 106 (.tmp 69), type := 106, pos := "ndfs.go:54", after := #[{ on := 6, ground := .data }], guard := none } : Oper)) rfl (fun K hK => ?_) AllReadyH.nil
    go_simp
    clear hHeld
    refine hK.out _ _ (K0.out _ (btrans hB6 (balloc (Below.refl _ _) _))) (fun hHeld => ?_)
    clear hK K
    try simp only [Act.put, zsA, zsZ, zsS]
    refine wpAnyH_ready (rs := [17]) (by kernel_rfl) (by simp) ?_
    refine AllReadyH.cons (o := ({ dst := some 80, op := .call { callee := .builtin .append, args := #[.tmp 70, .tmp 79], argTypes := #[106, 106] }, type := 106, pos := "ndfs.go:54", after := #[{ on := 7, ground := .data }, { on := 16, ground := .data }, { on := 14, ground := .chain }], guard := none } : Oper)) rfl (fun K hK => ?_) AllReadyH.nil
    (refine step_appR ?_ (.tmp 70) (.tmp 79) 106 TSp (.agg #[.int .i64 0, .int .i64 0, .int .i64 0, .slice none 0 0, .int .i64 0]) 5 56 ?_ Try.underlying106 infoSp rfl (by decide) W.heap.size X.a0 n0 X.c0 (spcells (nextP G sets A) S0) ?_ OW.out w6.heap.size 1 [.int .i64 x.node, .int .i64 x.state, .int .i64 x.turn, .slice an nl cn, .int .i64 0] ?_ rfl nc.out oc.out n5.out y5.out hBA.out ?_; exact rfl; exact rfl; exact rfl; exact rfl; intro a' c' w7 ho7 hg7 hat7)
    obtain ⟨st7, rB7⟩ := T7'.out a' c' w7 ho7 hg7 hat7
    have f7' := st7.row.free 10
    have d7 : w7.cell? ⟨sB, 10, none⟩ = some (.slice X.a0 n0 X.c0) := by (rw [st7.row.cell 10]; simp only [srow, ← hn0.out, ← hn1.out]; rfl)
    have hs7 : sB < w7.heap.size := st7.hs.2
    have c70 : w7.cell? ⟨sB, 0, none⟩ = some (.pointer (some ⟨p, 0, none⟩)) := st7.row.cell 0
    have S8 := Lib.hid (SX.out _ (rB7.other (b := sB) (by omega) 10 (.slice a' (n0 + 1) c')) ((st7.set 10 (.slice a' (n0 + 1) c')).row.cell 0))
    replace st7 := Lib.hid st7
    replace rB7 := Lib.hid rB7
    clear hHeld
    refine hK.out _ _ (SX.out _ rB7.out c70) (fun hHeld => ?_)
    clear hK K
    try simp only [Act.put, zsA, zsZ, zsS]
    refine wpAnyH_take (i := 20) (oi := ({ dst := some 83, op := .indexAddr 107 (.tmp 82) (.tmp 64), type := 0, pos := "ndfs.go:54", after := #[{ on := 19, ground := .data }, { on := 1, ground := .data }, { on := 0, ground := .phase }, { on := 1, ground := .phase }, { on := 2, ground := .phase }, { on := 3, ground := .phase }, { on := 4, ground := .phase }, { on := 5, ground := .phase }, { on := 6, ground := .phase }, { on := 7, ground := .phase }, { on := 8, ground := .phase }, { on := 9, ground := .phase }, { on := 10, ground := .phase }, { on := 11, ground := .phase }, { on := 12, ground := .phase }, { on := 13, ground := .phase }, { on := 14, ground := .phase }, { on := 15, ground := .phase }, { on := 16, ground := .phase }, { on := 17, ground := .phase }], guard := none } : Oper)) (v := ?_) rfl (by kernel_rfl) (by kernel_rfl) (by kernel_rfl) (fun _ _ _ h => h) (Or.inl ⟨by rfl, ?_⟩) (by assumption) ?_
    case refine_2 => (intro w hSw; (try dsimp only at hSw); go_simp; try with_reducible rfl)
    try simp only [Act.put, zsA, zsZ, zsS]
    refine wpAnyH_ready (rs := [21]) (by kernel_rfl) (by simp) ?_
    refine AllReadyH.cons (o := ({ dst := none, op := .store 106 (.tmp 83) (.tmp 80), type := 0, pos := "ndfs.go:54", after := #[{ on := 20, ground := .data }, { on := 17, ground := .data }, { on := 17, ground := .chain }, { on := 0, ground := .phase }, { on := 1, ground := .phase }, { on := 2, ground := .phase }, { on := 3, ground := .phase }, { on := 4, ground := .phase }, { on := 5, ground := .phase }, { on := 6, ground := .phase }, { on := 7, ground := .phase }, { on := 8, ground := .phase }, { on := 9, ground := .phase }, { on := 10, ground := .phase }, { on := 11, ground := .phase }, { on := 12, ground := .phase }, { on := 13, ground := .phase }, { on := 14, ground := .phase }, { on := 15, ground := .phase }, { on := 16, ground := .phase }, { on := 17, ground := .phase }], guard := none } : Oper)) rfl (fun K hK => ?_) AllReadyH.nil
    go_simp
    clear hHeld
    refine hK.out _ _ (S8.out) (fun hHeld => ?_)
    clear hK K
    try simp only [Act.put, zsA, zsZ, zsS]
    refine wpAnyH_done (by kernel_rfl) ?_ _
    clear hHeld OW nc oc hBA T6 T7 T7' n5 y5 SX K0 NX d6 d6a d7 f7' c70 S8 d10
    go_wp2
    go_ret
    exact ⟨rfl, ⟨{ { X with pn := X.pn + 1 } with a0 := a', c0 := c' }, S0 ++ [((x, 0), an, cn)], S1, by rw [List.map_append, h1.out]; simp [pushS], h2.out, ⟨by show X.pn + 1 ≤ k + 1; omega, hkp _ _ _⟩, (by have h := st7.out.set 10 (.slice a' (n0 + 1) c'); rw [show way sot ++ [x] = way ((x, 0) :: sot) from (way_cons (x, 0) sot).symm] at h; exact (fin0 h (by have := hdm3.out; have := hm1.out; have := hm.out; have := hn0.out; have := hn1.out; have := l0.out; have := l1.out; omega) hn0.out))⟩⟩
)
set_option maxHeartbeats 8000000 in
theorem come1_yes (W : World) (Z : Zn) (p sB : Nat) (b : NB) (G : GR) (sets : List (List Bool)) (A : AU) (hP : PrAt W p G sets A) (lt : Lt G sets A) (s : NS) (st : List (PP × Nat)) (w : World) (x : PP) (k : Nat) (hk : k ≤ 1000000) (h : SrOk W p sB Z b (nextP G sets A) s st k w) (hp : okPP x) (hd : ¬ b.d < s.ot.length + st.length + 1) (hl : s.ot.length ≤ 1000000 ∧ st.length ≤ 1000000 ∧ s.nodes ≤ 1000000 ∧ s.depth ≤ 1000000) :
  Calls Try.prog 79 #[.pointer (some ⟨sB, 0, none⟩), .int .i64 1, .agg #[.int .i64 x.node, .int .i64 x.state, .int .i64 x.turn]] w fun e w' => e = .returned (.bool true) ∧ SrOk W p sB Z b (nextP G sets A) (deepS s (s.ot.length + (st.length + 1))) ((x, 0) :: st) k w' := by
 obtain ⟨sn, se, sd, sre, sma, sot⟩ := s
 obtain ⟨X, S0, S1, h1, h2, h3, h4⟩ := h
 simp only [srun] at h1 h2 h3 h4 hd hl
 have l0 : S0.length = sot.length := by have := congrArg List.length h1; simpa using this
 have l1 : S1.length = st.length := by have := congrArg List.length h2; simpa using this
 obtain ⟨n0, hn0⟩ : ∃ n, n = S0.length := ⟨_, rfl⟩
 obtain ⟨n1, hn1⟩ : ∃ n, n = S1.length := ⟨_, rfl⟩
 have hA := h4.below (balloc (Below.refl _ _) (.cells #[.int .i64 x.node, .int .i64 x.state, .int .i64 x.turn] TPP))
 have rb := RowAt.new (w := w) (T := TPP) #[.int .i64 x.node, .int .i64 x.state, .int .i64 x.turn] rfl
 obtain ⟨hsl, hsl2⟩ := h4.hs
 have hr := hA.row
 unfold srow at hr
 rw [← hn0, ← hn1] at hr
 have c2 : (w.alloc (.cells #[.int .i64 x.node, .int .i64 x.state, .int .i64 x.turn] TPP)).cell? ⟨sB, 2, none⟩ = some (.int .i64 (b.d : Int)) := hr.cell 2
 have c7 : (w.alloc (.cells #[.int .i64 x.node, .int .i64 x.state, .int .i64 x.turn] TPP)).cell? ⟨sB, 7, none⟩ = some (.int .i64 (sd : Int)) := hr.cell 7
 have c10 : (w.alloc (.cells #[.int .i64 x.node, .int .i64 x.state, .int .i64 x.turn] TPP)).cell? ⟨sB, 10, none⟩ = some (.slice X.a0 n0 X.c0) := hr.cell 10
 have c11 : (w.alloc (.cells #[.int .i64 x.node, .int .i64 x.state, .int .i64 x.turn] TPP)).cell? ⟨sB, 11, none⟩ = some (.slice X.a1 n1 X.c1) := hr.cell 11
 have f7 := hr.free 7
 have b0 : (n0 : Int) ≤ 1000000 := by omega
 have b1 : (n1 : Int) ≤ 1000000 := by omega
 have bd : (sd : Int) ≤ 1000000 := by omega
 have e1 : IntKind.i64.wrap ((n0 : Int) + (n1 : Int)) = ((n0 + n1 : Nat) : Int) := by rw [IntWalk.i64_in _ (by omega)]; push_cast; rfl
 obtain ⟨m, hm⟩ : ∃ m, m = n0 + n1 := ⟨_, rfl⟩
 rw [← hm] at e1
 have e2 : IntKind.i64.wrap ((m : Int) + 1) = ((m + 1 : Nat) : Int) := by rw [IntWalk.i64_in _ (by omega)]; push_cast; rfl
 obtain ⟨m1, hm1⟩ : ∃ m1, m1 = m + 1 := ⟨_, rfl⟩
 rw [← hm1] at e2
 have hlt : ¬ (b.d : Int) < (m1 : Int) := by omega
 have hdd : decide (b.d < m1) = false := decide_eq_false (by omega)
 obtain ⟨dm, hdm⟩ : ∃ dm, dm = max sd m1 := ⟨_, rfl⟩
 have hB : ∀ n, SrAt W sB Z (nextP G sets A) X S0 S1 (way sot) sre sma (srow p b 0 0 sn se dm (.slice none 0 0) (.slice none 0 0) X S0.length S1.length) ((((w.alloc (.cells #[.int .i64 x.node, .int .i64 x.state, .int .i64 x.turn] TPP)).drewN n).setCell ⟨sB, 7, none⟩ (.int .i64 (dm : Int)))) := fun n =>
  (hA.below (bdrewN (Below.refl _ _) n)).set 7 (.int .i64 (dm : Int))
 have rB : ∀ n, RowAt ((((w.alloc (.cells #[.int .i64 x.node, .int .i64 x.state, .int .i64 x.turn] TPP)).drewN n).setCell ⟨sB, 7, none⟩ (.int .i64 (dm : Int)))) w.heap.size TPP [.int .i64 x.node, .int .i64 x.state, .int .i64 x.turn] := fun n =>
  (rb.below (bdrewN (Below.refl _ _) n)).other (by omega) 7 _
 have h4p := Lib.hid h4.mp.lt
 have h4o := Lib.hid h4.low
 have h4b : Hid (∀ j, OB X.a1 n1 X.c1 = some j → j < w.heap.size) := fun j hj => by
  rw [hn1] at hj
  exact (OwnR.lt h4.own1 hj).2
 replace hB := Lib.hid hB
 replace rB := Lib.hid rB
 replace hn0 := Lib.hid hn0
 replace hn1 := Lib.hid hn1
 replace hm := Lib.hid hm
 replace hm1 := Lib.hid hm1
 replace hdm := Lib.hid hdm
 replace h1 := Lib.hid h1
 replace h2 := Lib.hid h2
 replace l0 := Lib.hid l0
 replace l1 := Lib.hid l1
 replace hP := Lib.hid hP
 replace lt := Lib.hid lt
 have hdm2 : (sd < m1 ∧ dm = m1) ∨ (¬ sd < m1 ∧ dm = sd) := by have := hdm.out; omega
 clear hr hA rb h4 hd
 have hdm3 := hdm
 clear hdm
 rcases hdm2 with ⟨hmx, hdm2⟩ | ⟨hmx, hdm2⟩
 case' inl => obtain rfl : dm = m1 := hdm2
 case' inr => obtain rfl : dm = sd := hdm2
 all_goals (
  go_enter Try.func79, Try.ntmps79
  go_wp2
  go_quiet (fail)
  clear e1 e2 c10 c11
  go_wp2
  have hB2 := hB.out nq
  have rB2 := rB.out nq
  generalize (((w.alloc (.cells #[.int .i64 x.node, .int .i64 x.state, .int .i64 x.turn] TPP)).drewN nq).setCell ⟨sB, 7, none⟩ (.int .i64 (dm : Int))) = w2 at hB2 rB2 ⊢
  clear hB rB
  have hB3 := Lib.hid hB2
  have rB3 := Lib.hid rB2
  obtain ⟨w3, hw3⟩ : ∃ w3, w3 = w2 := ⟨_, rfl⟩
  rw [← hw3] at hB3 rB3 ⊢
  clear hB2 rB2 hw3
  have hxl : w.heap.size < w3.heap.size := rB3.out.lt
  have hsl3 : sB < w3.heap.size := hB3.out.hs.2
  have SX : Hid (∀ v, RowAt v w.heap.size TPP [.int .i64 x.node, .int .i64 x.state, .int .i64 x.turn] → v.cell? ⟨sB, 0, none⟩ = some (.pointer (some ⟨p, 0, none⟩)) → v.cell? ⟨sB, 0, none⟩ = some (.pointer (some ⟨p, 0, none⟩)) ∧ v.cell? ⟨w.heap.size, 0, none⟩ = some (.int .i64 x.node) ∧ v.cell? ⟨w.heap.size, 1, none⟩ = some (.int .i64 x.state) ∧ v.cell? ⟨w.heap.size, 2, none⟩ = some (.int .i64 x.turn)) := fun v h hp => ⟨hp, h.cell 0, h.cell 1, h.cell 2⟩
  have K0 : Hid (∀ v, Below w3.heap.size w3 v → v.cell? ⟨sB, 0, none⟩ = some (.pointer (some ⟨p, 0, none⟩)) ∧ v.cell? ⟨w.heap.size, 0, none⟩ = some (.int .i64 x.node) ∧ v.cell? ⟨w.heap.size, 1, none⟩ = some (.int .i64 x.state) ∧ v.cell? ⟨w.heap.size, 2, none⟩ = some (.int .i64 x.turn)) := fun v hb => SX.out v (rB3.out.below hb) (bcell hb (hB3.out.row.cell 0))
  have NX := Lib.hid (fun v (hb : Below w3.heap.size w3 v) => next_any v p G sets A (hP.out.below (btrans hB3.out.low hb)) lt.out x)
  have d11 : w3.cell? ⟨sB, 11, none⟩ = some (.slice X.a1 n1 X.c1) := by
   have h := hB3.out.row.cell 11
   rw [h]
   simp only [srow, ← hn0.out, ← hn1.out]
   rfl
  have hnx : (nextP G sets A x).length ≤ 144 := nextP_len lt.out x
  obtain ⟨nl, hnl⟩ : ∃ nl, nl = (nextP G sets A x).length := ⟨_, rfl⟩
  have T6 : Hid (∀ v an cn, Below w3.heap.size w3 v → OwnQ v w3.heap.size TPP an cn (nextP G sets A x) → v.cell? ⟨sB, 11, none⟩ = some (.slice X.a1 n1 X.c1) ∧ (v.alloc (.cells #[.int .i64 x.node, .int .i64 x.state, .int .i64 x.turn, .slice an nl cn, .int .i64 0] TSp)).cell? ⟨sB, 11, none⟩ = some (.slice X.a1 n1 X.c1) ∧ sB < v.heap.size ∧ w.heap.size < v.heap.size ∧ OwnR (v.alloc (.cells #[.int .i64 x.node, .int .i64 x.state, .int .i64 x.turn, .slice an nl cn, .int .i64 0] TSp)) W.heap.size TSp 5 X.a1 n1 X.c1 (spcells (nextP G sets A) S1) ∧ (∀ j u, [Value.int .i64 x.node, .int .i64 x.state, .int .i64 x.turn, .slice an nl cn, .int .i64 0][j]? = some u → (v.alloc (.cells #[.int .i64 x.node, .int .i64 x.state, .int .i64 x.turn, .slice an nl cn, .int .i64 0] TSp)).cell? ((⟨v.heap.size, 0, none⟩ : Addr).add j) = some u) ∧ (∀ u ∈ [Value.int .i64 x.node, .int .i64 x.state, .int .i64 x.turn, .slice an nl cn, .int .i64 0], u.oneCell' = true) ∧ W.heap.size ≤ (v.alloc (.cells #[.int .i64 x.node, .int .i64 x.state, .int .i64 x.turn, .slice an nl cn, .int .i64 0] TSp)).heap.size) := fun v an cn hb hq => by
   have hA : Below v.heap.size v (v.alloc (.cells #[.int .i64 x.node, .int .i64 x.state, .int .i64 x.turn, .slice an nl cn, .int .i64 0] TSp)) := balloc (Below.refl _ _) _
   have d1 := bcell hb d11
   have hz := hb.size
   have hz2 := hA.size
   have hz3 := hB3.out.low.size
   refine ⟨d1, bcell hA d1, by omega, by omega, ?_, new_cells v #[.int .i64 x.node, .int .i64 x.state, .int .i64 x.turn, .slice an nl cn, .int .i64 0] TSp rfl, fun u hu => by simp at hu; rcases hu with rfl | rfl | rfl | rfl | rfl <;> rfl, by omega⟩
   have h := ((hB3.out.below hb).below hA).own1
   rw [← hn1.out] at h
   exact h
  have n5 : Hid (n1 + 1 ≤ maxLen) := by show _ ≤ _; unfold maxLen; omega
  have y5 : Hid ((n1 + 1) * 56 ≤ 140737488355328) := by show _ ≤ _; omega
  have T7 : Hid (∀ v an cn, Below w3.heap.size w3 v → OwnQ v w3.heap.size TPP an cn (nextP G sets A x) → ∀ a' c' v', OwnR v' W.heap.size TSp 5 a' (n1 + 1) c' (spcells (nextP G sets A) S1 ++ [.int .i64 x.node, .int .i64 x.state, .int .i64 x.turn, .slice an nl cn, .int .i64 0]) → (v.alloc (.cells #[.int .i64 x.node, .int .i64 x.state, .int .i64 x.turn, .slice an nl cn, .int .i64 0] TSp)).grownBy v' (OB X.a1 n1 X.c1) → (OB a' (n1 + 1) c' = OB X.a1 n1 X.c1 ∨ OB a' (n1 + 1) c' = some (v.alloc (.cells #[.int .i64 x.node, .int .i64 x.state, .int .i64 x.turn, .slice an nl cn, .int .i64 0] TSp)).heap.size) →
    SrAt W sB Z (nextP G sets A) { X with a1 := a', c1 := c' } S0 (S1 ++ [((x, 0), an, cn)]) (way sot) sre sma (srow p b 0 0 sn se dm (.slice none 0 0) (.slice none 0 0) X S0.length S1.length) v' ∧ RowAt v' w.heap.size TPP [.int .i64 x.node, .int .i64 x.state, .int .i64 x.turn]) := fun v an cn hb hq a' c' v' ho hg hat => by
   have hA : Below v.heap.size v (v.alloc (.cells #[.int .i64 x.node, .int .i64 x.state, .int .i64 x.turn, .slice an nl cn, .int .i64 0] TSp)) := balloc (Below.refl _ _) _
   have hb2 : Below w3.heap.size w3 (v.alloc (.cells #[.int .i64 x.node, .int .i64 x.state, .int .i64 x.turn, .slice an nl cn, .int .i64 0] TSp)) := btrans hb hA
   have hlow0 := h4o.out
   refine ⟨SrAt.push1 (e := ((x, 0), an, cn)) hB3.out hb2 ((PpsAt.of_own hq).below hA) (fun ad had => ?_) ?_ ?_ ?_, ?_⟩
   ·have hj : OB an (nextP G sets A x).length cn = some ad.block := by
     have had' : an = some ad := had
     rw [had']; rfl
    have := OwnR.lt hq hj
    have := hA.size
    omega
   ·show OwnR v' W.heap.size TSp 5 a' (S1.length + 1) c' (spcells (nextP G sets A) S1 ++ [.int .i64 x.node, .int .i64 x.state, .int .i64 x.turn, .slice an (nextP G sets A x).length cn, .int .i64 0])
    rw [← hn1.out, ← hnl]
    exact ho
   ·rw [← hn1.out]; exact hg
   ·rw [← hn1.out]; exact hat
   ·refine ((rB3.out.below hb2)).keeps (Keeps.of_grown (S := fun j => OB X.a1 n1 X.c1 = some j) hg (fun j e => e)) (fun e => ?_)
    have := h4b.out _ e
    omega
  replace hnl := Lib.hid hnl
  refine wp_region_held_drew (S := (fun w' => w'.cell? ⟨sB, 0, none⟩ = some (.pointer (some ⟨p, 0, none⟩)) ∧ w'.cell? ⟨w.heap.size, 0, none⟩ = some (.int .i64 x.node) ∧ w'.cell? ⟨w.heap.size, 1, none⟩ = some (.int .i64 x.state) ∧ w'.cell? ⟨w.heap.size, 2, none⟩ = some (.int .i64 x.turn))) (by kernel_rfl) (K0.out _ (Below.refl _ _).drew) (fun hHeld => ?_)
  refine wpAnyH_take (i := 0) (oi := ({ dst := some 63, op := .move (.tmp 0), type := 103, pos := "ndfs.go:54", after := #[], guard := none } : Oper)) (v := ?_) rfl (by kernel_rfl) (by kernel_rfl) (by kernel_rfl) (fun _ _ _ h => h) (Or.inl ⟨by rfl, ?_⟩) (by assumption) ?_
  case refine_2 => (intro w hSw; (try dsimp only at hSw); go_simp; try with_reducible rfl)
  try simp only [Act.put, zsA, zsZ, zsS]
  refine wpAnyH_take (i := 1) (oi := ({ dst := some 64, op := .move (.tmp 1), type := 3, pos := "ndfs.go:54", after := #[], guard := none } : Oper)) (v := ?_) rfl (by kernel_rfl) (by kernel_rfl) (by kernel_rfl) (fun _ _ _ h => h) (Or.inl ⟨by rfl, ?_⟩) (by assumption) ?_
  case refine_2 => (intro w hSw; (try dsimp only at hSw); go_simp; try with_reducible rfl)
  try simp only [Act.put, zsA, zsZ, zsS]
  refine wpAnyH_take (i := 2) (oi := ({ dst := some 65, op := .move (.tmp 0), type := 103, pos := "ndfs.go:54", after := #[], guard := none } : Oper)) (v := ?_) rfl (by kernel_rfl) (by kernel_rfl) (by kernel_rfl) (fun _ _ _ h => h) (Or.inl ⟨by rfl, ?_⟩) (by assumption) ?_
  case refine_2 => (intro w hSw; (try dsimp only at hSw); go_simp; try with_reducible rfl)
  try simp only [Act.put, zsA, zsZ, zsS]
  refine wpAnyH_take (i := 3) (oi := ({ dst := some 66, op := .move (.tmp 1), type := 3, pos := "ndfs.go:54", after := #[], guard := none } : Oper)) (v := ?_) rfl (by kernel_rfl) (by kernel_rfl) (by kernel_rfl) (fun _ _ _ h => h) (Or.inl ⟨by rfl, ?_⟩) (by assumption) ?_
  case refine_2 => (intro w hSw; (try dsimp only at hSw); go_simp; try with_reducible rfl)
  try simp only [Act.put, zsA, zsZ, zsS]
  refine wpAnyH_take (i := 4) (oi := ({ dst := some 67, op := .nilCheck (.tmp 65), type := 0, pos := "ndfs.go:54", after := #[{ on := 2, ground := .data }], guard := none } : Oper)) (v := ?_) rfl (by kernel_rfl) (by kernel_rfl) (by kernel_rfl) (fun _ _ _ h => h) (Or.inl ⟨by rfl, ?_⟩) (by assumption) ?_
  case refine_2 => (intro w hSw; (try dsimp only at hSw); go_simp; try with_reducible rfl)
  try simp only [Act.put, zsA, zsZ, zsS]
  refine wpAnyH_take (i := 5) (oi := ({ dst := some 68, op := .fieldAddr 109 (.tmp 67) 3, type := 0, pos := "ndfs.go:54", after := #[{ on := 4, ground := .data }], guard := none } : Oper)) (v := ?_) rfl (by kernel_rfl) (by kernel_rfl) (by kernel_rfl) (fun _ _ _ h => h) (Or.inl ⟨by rfl, ?_⟩) (by assumption) ?_
  case refine_2 => (intro w hSw; (try dsimp only at hSw); go_simp; try with_reducible rfl)
  try simp only [Act.put, zsA, zsZ, zsS]
  refine wpAnyH_take (i := 6) (oi := ({ dst := some 69, op := .indexAddr 107 (.tmp 68) (.tmp 66), type := 0, pos := "ndfs.go:54", after := #[{ on := 5, ground := .data }, { on := 3, ground := .data }], guard := none } : Oper)) (v := ?_) rfl (by kernel_rfl) (by kernel_rfl) (by kernel_rfl) (fun _ _ _ h => h) (Or.inl ⟨by rfl, ?_⟩) (by assumption) ?_
  case refine_2 => (intro w hSw; (try dsimp only at hSw); go_simp; try with_reducible rfl)
  try simp only [Act.put, zsA, zsZ, zsS]
  refine wpAnyH_take (i := 8) (oi := ({ dst := some 71, op := .load 82 (.tmp 5), type := 82, pos := "ndfs.go:54", after := #[], guard := none } : Oper)) (v := ?_) rfl (by kernel_rfl) (by kernel_rfl) (by kernel_rfl) (fun _ _ _ h => h) (Or.inl ⟨by rfl, ?_⟩) (by assumption) ?_
  case refine_2 => (intro w hSw; (try dsimp only at hSw); go_simp; try with_reducible rfl)
  try simp only [Act.put, zsA, zsZ, zsS]
  refine wpAnyH_take (i := 9) (oi := ({ dst := some 72, op := .move (.tmp 0), type := 103, pos := "ndfs.go:54", after := #[], guard := none } : Oper)) (v := ?_) rfl (by kernel_rfl) (by kernel_rfl) (by kernel_rfl) (fun _ _ _ h => h) (Or.inl ⟨by rfl, ?_⟩) (by assumption) ?_
  case refine_2 => (intro w hSw; (try dsimp only at hSw); go_simp; try with_reducible rfl)
  try simp only [Act.put, zsA, zsZ, zsS]
  refine wpAnyH_take (i := 10) (oi := ({ dst := some 73, op := .nilCheck (.tmp 72), type := 0, pos := "ndfs.go:54", after := #[{ on := 9, ground := .data }], guard := none } : Oper)) (v := ?_) rfl (by kernel_rfl) (by kernel_rfl) (by kernel_rfl) (fun _ _ _ h => h) (Or.inl ⟨by rfl, ?_⟩) (by assumption) ?_
  case refine_2 => (intro w hSw; (try dsimp only at hSw); go_simp; try with_reducible rfl)
  try simp only [Act.put, zsA, zsZ, zsS]
  refine wpAnyH_take (i := 11) (oi := ({ dst := some 74, op := .fieldAddr 109 (.tmp 73) 0, type := 0, pos := "ndfs.go:54", after := #[{ on := 10, ground := .data }], guard := none } : Oper)) (v := ?_) rfl (by kernel_rfl) (by kernel_rfl) (by kernel_rfl) (fun _ _ _ h => h) (Or.inl ⟨by rfl, ?_⟩) (by assumption) ?_
  case refine_2 => (intro w hSw; (try dsimp only at hSw); go_simp; try with_reducible rfl)
  try simp only [Act.put, zsA, zsZ, zsS]
  refine wpAnyH_take (i := 12) (oi := ({ dst := some 75, op := .load 41 (.tmp 74), type := 41, pos := "ndfs.go:54", after := #[{ on := 11, ground := .data }], guard := none } : Oper)) (v := ?_) rfl (by kernel_rfl) (by kernel_rfl) (by kernel_rfl) (fun _ _ _ h => h) (Or.inl ⟨by rfl, ?_⟩) (by assumption) ?_
  case refine_2 => (intro w hSw; (try dsimp only at hSw); go_simp; try with_reducible rfl)
  try simp only [Act.put, zsA, zsZ, zsS]
  refine wpAnyH_take (i := 13) (oi := ({ dst := some 76, op := .load 82 (.tmp 5), type := 82, pos := "ndfs.go:54", after := #[], guard := none } : Oper)) (v := ?_) rfl (by kernel_rfl) (by kernel_rfl) (by kernel_rfl) (fun _ _ _ h => h) (Or.inl ⟨by rfl, ?_⟩) (by assumption) ?_
  case refine_2 => (intro w hSw; (try dsimp only at hSw); go_simp; try with_reducible rfl)
  try simp only [Act.put, zsA, zsZ, zsS]
  refine wpAnyH_take (i := 18) (oi := ({ dst := some 81, op := .nilCheck (.tmp 63), type := 0, pos := "ndfs.go:54", after := #[{ on := 0, ground := .data }], guard := none } : Oper)) (v := ?_) rfl (by kernel_rfl) (by kernel_rfl) (by kernel_rfl) (fun _ _ _ h => h) (Or.inl ⟨by rfl, ?_⟩) (by assumption) ?_
  case refine_2 => (intro w hSw; (try dsimp only at hSw); go_simp; try with_reducible rfl)
  try simp only [Act.put, zsA, zsZ, zsS]
  refine wpAnyH_take (i := 19) (oi := ({ dst := some 82, op := .fieldAddr 109 (.tmp 81) 3, type := 0, pos := "ndfs.go:54", after := #[{ on := 18, ground := .data }], guard := none } : Oper)) (v := ?_) rfl (by kernel_rfl) (by kernel_rfl) (by kernel_rfl) (fun _ _ _ h => h) (Or.inl ⟨by rfl, ?_⟩) (by assumption) ?_
  case refine_2 => (intro w hSw; (try dsimp only at hSw); go_simp; try with_reducible rfl)
  try simp only [Act.put, zsA, zsZ, zsS]
  refine wpAnyH_ready (rs := [7, 14]) (by kernel_rfl) (by simp) ?_
  refine AllReadyH.cons (o := ({ dst := some 70, op := .load 106 (.tmp 69), type := 106, pos := "ndfs.go:54", after := #[{ on := 6, ground := .data }], guard := none } : Oper)) rfl (fun K hK => ?_) (AllReadyH.cons (o := ({ dst := some 77, op := .call { callee := .value (.func 82), args := #[.tmp 75, .tmp 76], argTypes := #[41, 82] }, type := 48, pos := "ndfs.go:54", after := #[{ on := 12, ground := .data }, { on := 13, ground := .data }], guard := none } : Oper)) rfl (fun K hK => ?_) AllReadyH.nil)
  ·go_simp
   clear hHeld
   refine hK.out _ _ (K0.out _ (Below.refl _ _).drew) (fun hHeld => ?_)
   clear hK K
   try simp only [Act.put, zsA, zsZ, zsS]
   refine wpAnyH_ready (rs := [14]) (by kernel_rfl) (by simp) ?_
   refine AllReadyH.cons (o := ({ dst := some 77, op := .call { callee := .value (.func 82), args := #[.tmp 75, .tmp 76], argTypes := #[41, 82] }, type := 48, pos := "ndfs.go:54", after := #[{ on := 12, ground := .data }, { on := 13, ground := .data }], guard := none } : Oper)) rfl (fun K hK => ?_) AllReadyH.nil
   go_simp
   go_at_call 82
   (with_reducible refine (NX.out _ (Below.refl _ _).drew).mono ?_)
   rintro e w6 ⟨an, cn, rfl, hq6, hb6⟩
   have hB6 : Below w3.heap.size w3 w6 := ⟨hb6.os, hb6.tape, hb6.output, hb6.size, hb6.block⟩
   have hQ6 : OwnQ w6 w3.heap.size TPP an cn (nextP G sets A x) := hq6
   obtain ⟨d6, d6a, hs6, hx6, OW, nc, oc, hBA⟩ := T6.out w6 an cn hB6 hQ6
   have T7' := Lib.hid (T7.out w6 an cn hB6 hQ6)
   replace OW := Lib.hid OW
   replace nc := Lib.hid nc
   replace oc := Lib.hid oc
   replace hBA := Lib.hid hBA
   rw [← hnl.out]
   clear hHeld
   refine hK.out _ _ (K0.out _ hB6) (fun hHeld => ?_)
   clear hK K
   try simp only [Act.put, zsA, zsZ, zsS]
   refine wpAnyH_take (i := 15) (oi := ({ dst := some 78, op := .build 143 #[(0, .tmp 71), (1, .tmp 77)], type := 143, pos := "ndfs.go:54", after := #[{ on := 8, ground := .data }, { on := 14, ground := .data }], guard := none } : Oper)) (v := ?_) rfl (by kernel_rfl) (by kernel_rfl) (by kernel_rfl) (fun _ _ _ h => h) (Or.inl ⟨by rfl, ?_⟩) (by assumption) ?_
   case refine_2 => (intro w hSw; (try dsimp only at hSw); go_simp; try with_reducible rfl)
   try simp only [Act.put, zsA, zsZ, zsS]
   refine wpAnyH_ready (rs := [16]) (by kernel_rfl) (by simp) ?_
   refine AllReadyH.cons (o := ({ dst := some 79, op := .buildSlice 106 1 #[(0, .tmp 78)], type := 106, pos := "ndfs.go:54", after := #[{ on := 15, ground := .data }], guard := none } : Oper)) rfl (fun K hK => ?_) AllReadyH.nil
   go_simp
   clear hHeld
   refine hK.out _ _ (K0.out _ (btrans hB6 (balloc (Below.refl _ _) _))) (fun hHeld => ?_)
   clear hK K
   try simp only [Act.put, zsA, zsZ, zsS]
   refine wpAnyH_ready (rs := [17]) (by kernel_rfl) (by simp) ?_
   refine AllReadyH.cons (o := ({ dst := some 80, op := .call { callee := .builtin .append, args := #[.tmp 70, .tmp 79], argTypes := #[106, 106] }, type := 106, pos := "ndfs.go:54", after := #[{ on := 7, ground := .data }, { on := 16, ground := .data }, { on := 14, ground := .chain }], guard := none } : Oper)) rfl (fun K hK => ?_) AllReadyH.nil
   (refine step_appR ?_ (.tmp 70) (.tmp 79) 106 TSp (.agg #[.int .i64 0, .int .i64 0, .int .i64 0, .slice none 0 0, .int .i64 0]) 5 56 ?_ Try.underlying106 infoSp rfl (by decide) W.heap.size X.a1 n1 X.c1 (spcells (nextP G sets A) S1) ?_ OW.out w6.heap.size 1 [.int .i64 x.node, .int .i64 x.state, .int .i64 x.turn, .slice an nl cn, .int .i64 0] ?_ rfl nc.out oc.out n5.out y5.out hBA.out ?_; exact rfl; exact rfl; exact rfl; exact rfl; intro a' c' w7 ho7 hg7 hat7)
   obtain ⟨st7, rB7⟩ := T7'.out a' c' w7 ho7 hg7 hat7
   have f7' := st7.row.free 11
   have d7 : w7.cell? ⟨sB, 11, none⟩ = some (.slice X.a1 n1 X.c1) := by (rw [st7.row.cell 11]; simp only [srow, ← hn0.out, ← hn1.out]; rfl)
   have hs7 : sB < w7.heap.size := st7.hs.2
   have c70 : w7.cell? ⟨sB, 0, none⟩ = some (.pointer (some ⟨p, 0, none⟩)) := st7.row.cell 0
   have S8 := Lib.hid (SX.out _ (rB7.other (b := sB) (by omega) 11 (.slice a' (n1 + 1) c')) ((st7.set 11 (.slice a' (n1 + 1) c')).row.cell 0))
   replace st7 := Lib.hid st7
   replace rB7 := Lib.hid rB7
   clear hHeld
   refine hK.out _ _ (SX.out _ rB7.out c70) (fun hHeld => ?_)
   clear hK K
   try simp only [Act.put, zsA, zsZ, zsS]
   refine wpAnyH_take (i := 20) (oi := ({ dst := some 83, op := .indexAddr 107 (.tmp 82) (.tmp 64), type := 0, pos := "ndfs.go:54", after := #[{ on := 19, ground := .data }, { on := 1, ground := .data }, { on := 0, ground := .phase }, { on := 1, ground := .phase }, { on := 2, ground := .phase }, { on := 3, ground := .phase }, { on := 4, ground := .phase }, { on := 5, ground := .phase }, { on := 6, ground := .phase }, { on := 7, ground := .phase }, { on := 8, ground := .phase }, { on := 9, ground := .phase }, { on := 10, ground := .phase }, { on := 11, ground := .phase }, { on := 12, ground := .phase }, { on := 13, ground := .phase }, { on := 14, ground := .phase }, { on := 15, ground := .phase }, { on := 16, ground := .phase }, { on := 17, ground := .phase }], guard := none } : Oper)) (v := ?_) rfl (by kernel_rfl) (by kernel_rfl) (by kernel_rfl) (fun _ _ _ h => h) (Or.inl ⟨by rfl, ?_⟩) (by assumption) ?_
   case refine_2 => (intro w hSw; (try dsimp only at hSw); go_simp; try with_reducible rfl)
   try simp only [Act.put, zsA, zsZ, zsS]
   refine wpAnyH_ready (rs := [21]) (by kernel_rfl) (by simp) ?_
   refine AllReadyH.cons (o := ({ dst := none, op := .store 106 (.tmp 83) (.tmp 80), type := 0, pos := "ndfs.go:54", after := #[{ on := 20, ground := .data }, { on := 17, ground := .data }, { on := 17, ground := .chain }, { on := 0, ground := .phase }, { on := 1, ground := .phase }, { on := 2, ground := .phase }, { on := 3, ground := .phase }, { on := 4, ground := .phase }, { on := 5, ground := .phase }, { on := 6, ground := .phase }, { on := 7, ground := .phase }, { on := 8, ground := .phase }, { on := 9, ground := .phase }, { on := 10, ground := .phase }, { on := 11, ground := .phase }, { on := 12, ground := .phase }, { on := 13, ground := .phase }, { on := 14, ground := .phase }, { on := 15, ground := .phase }, { on := 16, ground := .phase }, { on := 17, ground := .phase }], guard := none } : Oper)) rfl (fun K hK => ?_) AllReadyH.nil
   go_simp
   clear hHeld
   refine hK.out _ _ (S8.out) (fun hHeld => ?_)
   clear hK K
   try simp only [Act.put, zsA, zsZ, zsS]
   refine wpAnyH_done (by kernel_rfl) ?_ _
   clear hHeld OW nc oc hBA T6 T7 T7' n5 y5 SX K0 NX d6 d6a d7 f7' c70 S8 d11
   go_wp2
   go_ret
   exact ⟨rfl, ⟨{ X with a1 := a', c1 := c' }, S0, S1 ++ [((x, 0), an, cn)], h1.out, by rw [List.map_append, h2.out]; simp, h3, (by have h := st7.out.set 11 (.slice a' (n1 + 1) c'); exact (fin1 h (by have := hdm3.out; have := hm1.out; have := hm.out; have := hn0.out; have := hn1.out; have := l0.out; have := l1.out; omega) hn1.out))⟩⟩
  ·go_simp
   go_at_call 82
   (with_reducible refine (NX.out _ (Below.refl _ _).drew).mono ?_)
   rintro e w6 ⟨an, cn, rfl, hq6, hb6⟩
   have hB6 : Below w3.heap.size w3 w6 := ⟨hb6.os, hb6.tape, hb6.output, hb6.size, hb6.block⟩
   have hQ6 : OwnQ w6 w3.heap.size TPP an cn (nextP G sets A x) := hq6
   obtain ⟨d6, d6a, hs6, hx6, OW, nc, oc, hBA⟩ := T6.out w6 an cn hB6 hQ6
   have T7' := Lib.hid (T7.out w6 an cn hB6 hQ6)
   replace OW := Lib.hid OW
   replace nc := Lib.hid nc
   replace oc := Lib.hid oc
   replace hBA := Lib.hid hBA
   rw [← hnl.out]
   clear hHeld
   refine hK.out _ _ (K0.out _ hB6) (fun hHeld => ?_)
   clear hK K
   try simp only [Act.put, zsA, zsZ, zsS]
   refine wpAnyH_take (i := 15) (oi := ({ dst := some 78, op := .build 143 #[(0, .tmp 71), (1, .tmp 77)], type := 143, pos := "ndfs.go:54", after := #[{ on := 8, ground := .data }, { on := 14, ground := .data }], guard := none } : Oper)) (v := ?_) rfl (by kernel_rfl) (by kernel_rfl) (by kernel_rfl) (fun _ _ _ h => h) (Or.inl ⟨by rfl, ?_⟩) (by assumption) ?_
   case refine_2 => (intro w hSw; (try dsimp only at hSw); go_simp; try with_reducible rfl)
   try simp only [Act.put, zsA, zsZ, zsS]
   refine wpAnyH_ready (rs := [7, 16]) (by kernel_rfl) (by simp) ?_
   refine AllReadyH.cons (o := ({ dst := some 70, op := .load 106 (.tmp 69), type := 106, pos := "ndfs.go:54", after := #[{ on := 6, ground := .data }], guard := none } : Oper)) rfl (fun K hK => ?_) (AllReadyH.cons (o := ({ dst := some 79, op := .buildSlice 106 1 #[(0, .tmp 78)], type := 106, pos := "ndfs.go:54", after := #[{ on := 15, ground := .data }], guard := none } : Oper)) rfl (fun K hK => ?_) AllReadyH.nil)
   ·go_simp
    clear hHeld
    refine hK.out _ _ (K0.out _ hB6) (fun hHeld => ?_)
    clear hK K
    try simp only [Act.put, zsA, zsZ, zsS]
    refine wpAnyH_ready (rs := [16]) (by kernel_rfl) (by simp) ?_
    refine AllReadyH.cons (o := ({ dst := some 79, op := .buildSlice 106 1 #[(0, .tmp 78)], type := 106, pos := "ndfs.go:54", after := #[{ on := 15, ground := .data }], guard := none } : Oper)) rfl (fun K hK => ?_) AllReadyH.nil
    go_simp
    clear hHeld
    refine hK.out _ _ (K0.out _ (btrans hB6 (balloc (Below.refl _ _) _))) (fun hHeld => ?_)
    clear hK K
    try simp only [Act.put, zsA, zsZ, zsS]
    refine wpAnyH_ready (rs := [17]) (by kernel_rfl) (by simp) ?_
    refine AllReadyH.cons (o := ({ dst := some 80, op := .call { callee := .builtin .append, args := #[.tmp 70, .tmp 79], argTypes := #[106, 106] }, type := 106, pos := "ndfs.go:54", after := #[{ on := 7, ground := .data }, { on := 16, ground := .data }, { on := 14, ground := .chain }], guard := none } : Oper)) rfl (fun K hK => ?_) AllReadyH.nil
    (refine step_appR ?_ (.tmp 70) (.tmp 79) 106 TSp (.agg #[.int .i64 0, .int .i64 0, .int .i64 0, .slice none 0 0, .int .i64 0]) 5 56 ?_ Try.underlying106 infoSp rfl (by decide) W.heap.size X.a1 n1 X.c1 (spcells (nextP G sets A) S1) ?_ OW.out w6.heap.size 1 [.int .i64 x.node, .int .i64 x.state, .int .i64 x.turn, .slice an nl cn, .int .i64 0] ?_ rfl nc.out oc.out n5.out y5.out hBA.out ?_; exact rfl; exact rfl; exact rfl; exact rfl; intro a' c' w7 ho7 hg7 hat7)
    obtain ⟨st7, rB7⟩ := T7'.out a' c' w7 ho7 hg7 hat7
    have f7' := st7.row.free 11
    have d7 : w7.cell? ⟨sB, 11, none⟩ = some (.slice X.a1 n1 X.c1) := by (rw [st7.row.cell 11]; simp only [srow, ← hn0.out, ← hn1.out]; rfl)
    have hs7 : sB < w7.heap.size := st7.hs.2
    have c70 : w7.cell? ⟨sB, 0, none⟩ = some (.pointer (some ⟨p, 0, none⟩)) := st7.row.cell 0
    have S8 := Lib.hid (SX.out _ (rB7.other (b := sB) (by omega) 11 (.slice a' (n1 + 1) c')) ((st7.set 11 (.slice a' (n1 + 1) c')).row.cell 0))
    replace st7 := Lib.hid st7
    replace rB7 := Lib.hid rB7
    clear hHeld
    refine hK.out _ _ (SX.out _ rB7.out c70) (fun hHeld => ?_)
    clear hK K
    try simp only [Act.put, zsA, zsZ, zsS]
    refine wpAnyH_take (i := 20) (oi := ({ dst := some 83, op := .indexAddr 107 (.tmp 82) (.tmp 64), type := 0, pos := "ndfs.go:54", after := #[{ on := 19, ground := .data }, { on := 1, ground := .data }, { on := 0, ground := .phase }, { on := 1, ground := .phase }, { on := 2, ground := .phase }, { on := 3, ground := .phase }, { on := 4, ground := .phase }, { on := 5, ground := .phase }, { on := 6, ground := .phase }, { on := 7, ground := .phase }, { on := 8, ground := .phase }, { on := 9, ground := .phase }, { on := 10, ground := .phase }, { on := 11, ground := .phase }, { on := 12, ground := .phase }, { on := 13, ground := .phase }, { on := 14, ground := .phase }, { on := 15, ground := .phase }, { on := 16, ground := .phase }, { on := 17, ground := .phase }], guard := none } : Oper)) (v := ?_) rfl (by kernel_rfl) (by kernel_rfl) (by kernel_rfl) (fun _ _ _ h => h) (Or.inl ⟨by rfl, ?_⟩) (by assumption) ?_
    case refine_2 => (intro w hSw; (try dsimp only at hSw); go_simp; try with_reducible rfl)
    try simp only [Act.put, zsA, zsZ, zsS]
    refine wpAnyH_ready (rs := [21]) (by kernel_rfl) (by simp) ?_
    refine AllReadyH.cons (o := ({ dst := none, op := .store 106 (.tmp 83) (.tmp 80), type := 0, pos := "ndfs.go:54", after := #[{ on := 20, ground := .data }, { on := 17, ground := .data }, { on := 17, ground := .chain }, { on := 0, ground := .phase }, { on := 1, ground := .phase }, { on := 2, ground := .phase }, { on := 3, ground := .phase }, { on := 4, ground := .phase }, { on := 5, ground := .phase }, { on := 6, ground := .phase }, { on := 7, ground := .phase }, { on := 8, ground := .phase }, { on := 9, ground := .phase }, { on := 10, ground := .phase }, { on := 11, ground := .phase }, { on := 12, ground := .phase }, { on := 13, ground := .phase }, { on := 14, ground := .phase }, { on := 15, ground := .phase }, { on := 16, ground := .phase }, { on := 17, ground := .phase }], guard := none } : Oper)) rfl (fun K hK => ?_) AllReadyH.nil
    go_simp
    clear hHeld
    refine hK.out _ _ (S8.out) (fun hHeld => ?_)
    clear hK K
    try simp only [Act.put, zsA, zsZ, zsS]
    refine wpAnyH_done (by kernel_rfl) ?_ _
    clear hHeld OW nc oc hBA T6 T7 T7' n5 y5 SX K0 NX d6 d6a d7 f7' c70 S8 d11
    go_wp2
    go_ret
    exact ⟨rfl, ⟨{ X with a1 := a', c1 := c' }, S0, S1 ++ [((x, 0), an, cn)], h1.out, by rw [List.map_append, h2.out]; simp, h3, (by have h := st7.out.set 11 (.slice a' (n1 + 1) c'); exact (fin1 h (by have := hdm3.out; have := hm1.out; have := hm.out; have := hn0.out; have := hn1.out; have := l0.out; have := l1.out; omega) hn1.out))⟩⟩
   ·go_simp
    clear hHeld
    refine hK.out _ _ (K0.out _ (btrans hB6 (balloc (Below.refl _ _) _))) (fun hHeld => ?_)
    clear hK K
    try simp only [Act.put, zsA, zsZ, zsS]
    refine wpAnyH_ready (rs := [7]) (by kernel_rfl) (by simp) ?_
    refine AllReadyH.cons (o := ({ dst := some 70, op := .load 106 (.tmp 69), type := 106, pos := "ndfs.go:54", after := #[{ on := 6, ground := .data }], guard := none } : Oper)) rfl (fun K hK => ?_) AllReadyH.nil
    go_simp
    clear hHeld
    refine hK.out _ _ (K0.out _ (btrans hB6 (balloc (Below.refl _ _) _))) (fun hHeld => ?_)
    clear hK K
    try simp only [Act.put, zsA, zsZ, zsS]
    refine wpAnyH_ready (rs := [17]) (by kernel_rfl) (by simp) ?_
    refine AllReadyH.cons (o := ({ dst := some 80, op := .call { callee := .builtin .append, args := #[.tmp 70, .tmp 79], argTypes := #[106, 106] }, type := 106, pos := "ndfs.go:54", after := #[{ on := 7, ground := .data }, { on := 16, ground := .data }, { on := 14, ground := .chain }], guard := none } : Oper)) rfl (fun K hK => ?_) AllReadyH.nil
    (refine step_appR ?_ (.tmp 70) (.tmp 79) 106 TSp (.agg #[.int .i64 0, .int .i64 0, .int .i64 0, .slice none 0 0, .int .i64 0]) 5 56 ?_ Try.underlying106 infoSp rfl (by decide) W.heap.size X.a1 n1 X.c1 (spcells (nextP G sets A) S1) ?_ OW.out w6.heap.size 1 [.int .i64 x.node, .int .i64 x.state, .int .i64 x.turn, .slice an nl cn, .int .i64 0] ?_ rfl nc.out oc.out n5.out y5.out hBA.out ?_; exact rfl; exact rfl; exact rfl; exact rfl; intro a' c' w7 ho7 hg7 hat7)
    obtain ⟨st7, rB7⟩ := T7'.out a' c' w7 ho7 hg7 hat7
    have f7' := st7.row.free 11
    have d7 : w7.cell? ⟨sB, 11, none⟩ = some (.slice X.a1 n1 X.c1) := by (rw [st7.row.cell 11]; simp only [srow, ← hn0.out, ← hn1.out]; rfl)
    have hs7 : sB < w7.heap.size := st7.hs.2
    have c70 : w7.cell? ⟨sB, 0, none⟩ = some (.pointer (some ⟨p, 0, none⟩)) := st7.row.cell 0
    have S8 := Lib.hid (SX.out _ (rB7.other (b := sB) (by omega) 11 (.slice a' (n1 + 1) c')) ((st7.set 11 (.slice a' (n1 + 1) c')).row.cell 0))
    replace st7 := Lib.hid st7
    replace rB7 := Lib.hid rB7
    clear hHeld
    refine hK.out _ _ (SX.out _ rB7.out c70) (fun hHeld => ?_)
    clear hK K
    try simp only [Act.put, zsA, zsZ, zsS]
    refine wpAnyH_take (i := 20) (oi := ({ dst := some 83, op := .indexAddr 107 (.tmp 82) (.tmp 64), type := 0, pos := "ndfs.go:54", after := #[{ on := 19, ground := .data }, { on := 1, ground := .data }, { on := 0, ground := .phase }, { on := 1, ground := .phase }, { on := 2, ground := .phase }, { on := 3, ground := .phase }, { on := 4, ground := .phase }, { on := 5, ground := .phase }, { on := 6, ground := .phase }, { on := 7, ground := .phase }, { on := 8, ground := .phase }, { on := 9, ground := .phase }, { on := 10, ground := .phase }, { on := 11, ground := .phase }, { on := 12, ground := .phase }, { on := 13, ground := .phase }, { on := 14, ground := .phase }, { on := 15, ground := .phase }, { on := 16, ground := .phase }, { on := 17, ground := .phase }], guard := none } : Oper)) (v := ?_) rfl (by kernel_rfl) (by kernel_rfl) (by kernel_rfl) (fun _ _ _ h => h) (Or.inl ⟨by rfl, ?_⟩) (by assumption) ?_
    case refine_2 => (intro w hSw; (try dsimp only at hSw); go_simp; try with_reducible rfl)
    try simp only [Act.put, zsA, zsZ, zsS]
    refine wpAnyH_ready (rs := [21]) (by kernel_rfl) (by simp) ?_
    refine AllReadyH.cons (o := ({ dst := none, op := .store 106 (.tmp 83) (.tmp 80), type := 0, pos := "ndfs.go:54", after := #[{ on := 20, ground := .data }, { on := 17, ground := .data }, { on := 17, ground := .chain }, { on := 0, ground := .phase }, { on := 1, ground := .phase }, { on := 2, ground := .phase }, { on := 3, ground := .phase }, { on := 4, ground := .phase }, { on := 5, ground := .phase }, { on := 6, ground := .phase }, { on := 7, ground := .phase }, { on := 8, ground := .phase }, { on := 9, ground := .phase }, { on := 10, ground := .phase }, { on := 11, ground := .phase }, { on := 12, ground := .phase }, { on := 13, ground := .phase }, { on := 14, ground := .phase }, { on := 15, ground := .phase }, { on := 16, ground := .phase }, { on := 17, ground := .phase }], guard := none } : Oper)) rfl (fun K hK => ?_) AllReadyH.nil
    go_simp
    clear hHeld
    refine hK.out _ _ (S8.out) (fun hHeld => ?_)
    clear hK K
    try simp only [Act.put, zsA, zsZ, zsS]
    refine wpAnyH_done (by kernel_rfl) ?_ _
    clear hHeld OW nc oc hBA T6 T7 T7' n5 y5 SX K0 NX d6 d6a d7 f7' c70 S8 d11
    go_wp2
    go_ret
    exact ⟨rfl, ⟨{ X with a1 := a', c1 := c' }, S0, S1 ++ [((x, 0), an, cn)], h1.out, by rw [List.map_append, h2.out]; simp, h3, (by have h := st7.out.set 11 (.slice a' (n1 + 1) c'); exact (fin1 h (by have := hdm3.out; have := hm1.out; have := hm.out; have := hn0.out; have := hn1.out; have := l0.out; have := l1.out; omega) hn1.out))⟩⟩
)
end Go.Proofs.Ytfcpfcgcfaacnaa
