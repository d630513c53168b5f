/- A product in memory: none, reads, is, of. Conditions: a product that New made. -/
import Derived.Test.YtmlbjfaofppikaaPrFix
import Derived.Test.YtmlbjfaofppikaaAutoGood
import Derived.Laws.BitsLemmas
import Derived.Laws.Bits64
import Derived.Laws.Bits64b
namespace Go.Proofs.Ytmlbjfaofppikaa
open Go.RowKit

abbrev TPr : Nat := 63
abbrev TFp : Nat := 79
structure PrA (w : World) (p f : Nat) (ai an : Option Addr) (ci cn : Nat) (G : GR) (sets : List (List Bool)) (A : AU) : Prop where
  row : RowAt w p TPr [.iface TFp (.pointer (some ⟨f, 0, none⟩)), .int .i64 A.sets, .slice ai A.init.length ci, .slice an A.nodes.length cn, .int .i64 (allS sets A)]
  fx : FxAt w f G (inbits G.edges.length sets) sets.length
  au : AuAt w ai A.init.length an A.nodes.length A
  src : srcB G sets = true
  chk : chk A = 0
  ok : GOk G
  aok : AuOk A
theorem PrA.below {w w' : World} {p f : Nat} {ai an : Option Addr} {ci cn : Nat} {G : GR} {sets : List (List Bool)} {A : AU} (h : PrA w p f ai an ci cn G sets A) (hb : Below w.heap.size w w') : PrA w' p f ai an ci cn G sets A :=
  ⟨h.row.below hb, h.fx.below hb, h.au.below hb, h.src, h.chk, h.ok, h.aok⟩
/-- a product that New made -/
def PrAt (w : World) (p : Nat) (G : GR) (sets : List (List Bool)) (A : AU) : Prop := ∃ f ai an ci cn, PrA w p f ai an ci cn G sets A
theorem PrAt.below {w w' : World} {p : Nat} {G : GR} {sets : List (List Bool)} {A : AU} (h : PrAt w p G sets A) (hb : Below w.heap.size w w') : PrAt w' p G sets A := by
  obtain ⟨_, _, _, _, _, h⟩ := h
  exact ⟨_, _, _, _, _, h.below hb⟩
theorem pnone_any (w : World) (p : Nat) (G : GR) (sets : List (List Bool)) (A : AU) (h : PrAt w p G sets A) :
    Calls Try.prog 34 #[.pointer (some ⟨p, 0, none⟩)] w fun e w' => e = .returned (.bool false) ∧ w = w' := by
  obtain ⟨f, ai, an, ci, cn, h⟩ := h
  have c0 : w.cell? ⟨p, 0, none⟩ = some (.iface TFp (.pointer (some ⟨f, 0, none⟩))) := h.row.cell 0
  clear h
  go_enter Try.func34, Try.ntmps34
  go_wp2
  go_ret
  exact ⟨rfl, rfl⟩
theorem and_eq {a b : Nat} (ha : a < 18446744073709551616) (hb : b < 18446744073709551616) : (bits .and .u64 (a : Int) (b : Int) == (b : Int)) = (a &&& b == b) := by
  rw [bits_and_u64_nat a b ha hb]
  by_cases h : a &&& b = b
  · rw [h]; simp
  · have e1 : (a &&& b == b) = false := by simpa using h
    rw [e1, beq_eq_false_iff_ne]
    omega
theorem and_zero {a b : Nat} (ha : a < 18446744073709551616) (hb : b < 18446744073709551616) : (bits .and .u64 (a : Int) (b : Int) == 0) = (a &&& b == 0) := by
  rw [bits_and_u64_nat a b ha hb]
  by_cases h : a &&& b = 0
  · rw [h]; rfl
  · have e1 : (a &&& b == 0) = false := by simpa using h
    rw [e1, beq_eq_false_iff_ne]
    omega
theorem nodeP_at {A : AU} {k : Nat} (hk : k < A.nodes.length) : nodeP A k = A.nodes[k] := by
  unfold nodeP
  rw [Int.toNat_natCast]
  simp [List.getD, hk]
set_option maxHeartbeats 1000000 in
theorem preads_any (w : World) (p : Nat) (G : GR) (sets : List (List Bool)) (A : AU) (h : PrAt w p G sets A) (k : Nat) (hk : k < A.nodes.length) (lab : Nat) (hl : lab < 18446744073709551616) :
    Calls Try.prog 57 #[.pointer (some ⟨p, 0, none⟩), .int .i64 k, .int .u64 lab] w fun e w' => e = .returned (.bool (readsB (nodeP A k) lab)) ∧ Below w.heap.size w w' := by
  obtain ⟨f, ai, an, ci, cn, h⟩ := h
  have c3 : w.cell? ⟨p, 3, none⟩ = some (.slice an A.nodes.length cn) := h.row.cell 3
  obtain ⟨b, off, rfl, n0, n1, n2, a3, x3, n3, _⟩ := h.au.nodes.at k hk
  obtain ⟨u0, u1, u2, _⟩ := h.aok.nodes _ (List.getElem_mem hk)
  rw [nodeP_at hk]
  generalize A.nodes[k] = x at n0 n1 n2 n3 u0 u1 u2 ⊢
  have q1 := and_eq hl u0
  have q2 := and_zero hl u1
  have hr : Hid (readsB x lab = ((lab &&& x.need == x.need) && (lab &&& x.ban == 0))) := rfl
  generalize (lab &&& x.need == x.need) = b1 at q1 hr
  generalize (lab &&& x.ban == 0) = b2 at q2 hr
  rw [hr.out]
  obtain ⟨xn, xb, xi, xt⟩ := x
  simp only at q1 q2 n0 n1 n2 n3
  have hk2 : (k : Int) < (A.nodes.length : Int) := by omega
  clear h hr u0 u1 u2 hl
  cases b1 with
  | false =>
    go_enter Try.func57, Try.ntmps57
    go_wp2
    go_ret
    exact ⟨rfl, balloc (Below.refl _ _) _⟩
  | true =>
    go_enter Try.func57, Try.ntmps57
    go_wp2
    go_ret
    exact ⟨rfl, balloc (Below.refl _ _) _⟩
/-- a pair as a value -/
abbrev ppv (x : PP) : Value := .agg #[.int .i64 x.node, .int .i64 x.state, .int .i64 x.turn]
abbrev TPP : Nat := 32
theorem chk_sets {A : AU} (h : chk A = 0) : 0 ≤ A.sets ∧ A.sets ≤ 16 ∧ A.nodes.length ≤ 256 := ⟨(chk_good h).2.1, (chk_good h).2.2.1, (chk_good h).1⟩
theorem src_sets {G : GR} {sets : List (List Bool)} (h : srcB G sets = true) : gchk G = 0 ∧ sets.length ≤ 16 ∧ ∀ s ∈ sets, s.length = G.edges.length := by
  unfold srcB at h
  simp only [Bool.and_eq_true, decide_eq_true_eq, List.all_eq_true] at h
  exact ⟨h.1.1, h.1.2, h.2⟩
theorem maxB {n : Nat} (h : n ≤ 40) : (if (n : Int) < 1 then (1 : Int) else n) = ((max n 1 : Nat) : Int) := by
  split <;> omega
set_option maxHeartbeats 2000000 in
theorem pis_any (w : World) (p : Nat) (G : GR) (sets : List (List Bool)) (A : AU) (h : PrAt w p G sets A) (x : PP) :
    Calls Try.prog 36 #[.pointer (some ⟨p, 0, none⟩), ppv x] w fun e w' => e = .returned (.bool (isP sets A x)) ∧ Below w.heap.size w w' := by
  have N := Lib.hid (fun wr (hb : Below w.heap.size w wr) => pnone_any wr p G sets A (h.below hb))
  obtain ⟨f, ai, an, ci, cn, h⟩ := h
  obtain ⟨s0, s16, _⟩ := chk_sets h.chk
  obtain ⟨_, t16, _⟩ := src_sets h.src
  have hall : allS sets A ≤ 40 := by unfold allS; omega
  obtain ⟨w1, hw1⟩ : ∃ w1, w.alloc (.cells #[.int .i64 x.node, .int .i64 x.state, .int .i64 x.turn] TPP) = w1 := ⟨_, rfl⟩
  have hb1 : Below w.heap.size w w1 := by rw [← hw1]; exact balloc (Below.refl _ _) _
  have hx : RowAt w1 w.heap.size TPP [.int .i64 x.node, .int .i64 x.state, .int .i64 x.turn] := by rw [← hw1]; exact RowAt.new #[.int .i64 x.node, .int .i64 x.state, .int .i64 x.turn] rfl
  have hr := h.row.below hb1
  have c3 : w1.cell? ⟨p, 3, none⟩ = some (.slice an A.nodes.length cn) := hr.cell 3
  have c4 : w1.cell? ⟨p, 4, none⟩ = some (.int .i64 (allS sets A)) := hr.cell 4
  have x1 : w1.cell? ⟨w.heap.size, 1, none⟩ = some (.int .i64 x.state) := hx.cell 1
  have x2 : w1.cell? ⟨w.heap.size, 2, none⟩ = some (.int .i64 x.turn) := hx.cell 2
  obtain ⟨xn, xs, xt⟩ := x
  simp only at x1 x2 hw1
  obtain ⟨m, hm⟩ : ∃ m, m = allS sets A := ⟨_, rfl⟩
  rw [← hm] at c4 hall
  have hres : Hid (isP sets A ⟨xn, xs, xt⟩ = (inG A.nodes.length xs && inG (max m 1) xt)) := by show _ = _; rw [hm]; rfl
  generalize A.nodes.length = nn at c3 hres
  rw [hres.out]
  have N2 := Lib.hid (fun k => N.out (w1.drewN k) (bdrewN hb1 k))
  replace hm := Lib.hid hm
  clear h hr hx N s0 s16 t16 hres
  by_cases h0 : xs < 0
  · have h0' : decide (0 ≤ xs) = false := by simpa using h0
    rw [show (inG nn xs && inG (max m 1) xt) = false by rw [inG_no h0]; rfl]
    go_enter Try.func36, Try.ntmps36
    go_wp2
    go_quiet ((go_at_call 34; exact Calls.quiet_of_same ((N2.out _).mono fun _ _ h => ⟨h.1, h.2.symm⟩)))
    go_wp2
    go_ret
    exact ⟨rfl, bdrewN hb1 _⟩
  have h0' : decide (0 ≤ xs) = true := by simpa using h0
  rw [inG_yes (show 0 ≤ xs by omega)]
  by_cases h1 : xs < (nn : Int)
  · have h1' : decide (xs < (nn : Int)) = true := by simpa using h1
    rw [h1', Bool.true_and]
    by_cases h2 : xt < 0
    · have h2' : decide (0 ≤ xt) = false := by simpa using h2
      rw [inG_no h2]
      go_enter Try.func36, Try.ntmps36
      go_wp2
      go_quiet ((go_at_call 34; exact Calls.quiet_of_same ((N2.out _).mono fun _ _ h => ⟨h.1, h.2.symm⟩)))
      go_wp2
      go_ret
      exact ⟨rfl, bdrewN hb1 _⟩
    · have h2' : decide (0 ≤ xt) = true := by simpa using h2
      rw [inG_yes (show 0 ≤ xt by omega)]
      cases m with
      | zero =>
        go_enter Try.func36, Try.ntmps36
        go_wp2
        go_quiet ((go_at_call 34; exact Calls.quiet_of_same ((N2.out _).mono fun _ _ h => ⟨h.1, h.2.symm⟩)))
        go_wp2
        go_ret
        exact ⟨rfl, bdrewN hb1 _⟩
      | succ m =>
        have hmm : ¬ ((m + 1 : Nat) : Int) < 1 := by omega
        obtain ⟨M, hM⟩ : ∃ M, M = m + 1 := ⟨_, rfl⟩
        rw [← hM] at hmm c4 hall ⊢
        have hMx : max M 1 = M := by omega
        rw [hMx]
        have hM1 : 1 ≤ (M : Int) := by omega
        clear hM hMx
        go_enter Try.func36, Try.ntmps36
        go_wp2
        go_quiet ((go_at_call 34; exact Calls.quiet_of_same ((N2.out _).mono fun _ _ h => ⟨h.1, h.2.symm⟩)))
        go_wp2
        go_ret
        exact ⟨rfl, bdrewN hb1 _⟩
  · have h1' : decide (xs < (nn : Int)) = false := by simpa using h1
    rw [h1', Bool.false_and]
    go_enter Try.func36, Try.ntmps36
    go_wp2
    go_quiet ((go_at_call 34; exact Calls.quiet_of_same ((N2.out _).mono fun _ _ h => ⟨h.1, h.2.symm⟩)))
    go_wp2
    go_ret
    exact ⟨rfl, bdrewN hb1 _⟩
end Go.Proofs.Ytmlbjfaofppikaa
