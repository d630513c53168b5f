/- A product in memory: none, reads, is, of. Conditions: a product that New made. Whether a pair is of the set whose turn it is. Conditions: a pair that is one, and sets. Rows of edges that a call puts one behind the other, and the bits of a source. Conditions: the bound on an append. A map of pairs to truths that a call makes and fills: a set; and rows of pairs. No conditions but Go's int. Pairs of a node with states. Conditions: a product that New made, and how many there are. The first pairs of a product. Conditions: a product that New made, and a small one. -/
import Derived.Test.YtfcpfcgcfaacnaaSPrIn
import Derived.Test.YtfcpfcgcfaacnaaSAutoGood
import Derived.Laws.BitsLemmas
import Derived.Laws.Bits64
import Derived.Laws.Bits64b
import Derived.IntWalk
import Derived.Test.YtfcpfcgcfaacnaaSMem
import Derived.Maps.OwnSet
import Derived.Maps.Views
import Derived.DeepKeys4
namespace Go.Proofs.Ytfcpfcgcfaacnaa
open Go.RowKit
abbrev TPr : Nat := 93
abbrev TFp : Nat := 96
structure PrA (w : World) (p f : Nat) (ai an : Option Addr) (ci cn : Nat) (G : GR) (sets : List (List Bool)) (A : AU) : Prop where
 row : RowAt w p TPr [.iface TFp (.pointer (some ⟨f, 0, none⟩)), .int .i64 A.sets, .slice ai A.init.length ci, .slice an A.nodes.length cn, .int .i64 (allS sets A)]
 fx : FxAt w f G (inbits G.edges.length sets) sets.length
 au : AuAt w ai A.init.length an A.nodes.length A
 src : srcB G sets = true
 chk : chk A = 0
 ok : GOk G
 aok : AuOk A
theorem PrA.below {w w' : World} {p f : Nat} {ai an : Option Addr} {ci cn : Nat} {G : GR} {sets : List (List Bool)} {A : AU} (h : PrA w p f ai an ci cn G sets A) (hb : Below w.heap.size w w') : PrA w' p f ai an ci cn G sets A :=
 ⟨h.row.below hb, h.fx.below hb, h.au.below hb, h.src, h.chk, h.ok, h.aok⟩
def PrAt (w : World) (p : Nat) (G : GR) (sets : List (List Bool)) (A : AU) : Prop := ∃ f ai an ci cn, PrA w p f ai an ci cn G sets A
theorem PrAt.below {w w' : World} {p : Nat} {G : GR} {sets : List (List Bool)} {A : AU} (h : PrAt w p G sets A) (hb : Below w.heap.size w w') : PrAt w' p G sets A := by
 obtain ⟨_, _, _, _, _, h⟩ := h
 exact ⟨_, _, _, _, _, h.below hb⟩
theorem pnone_any (w : World) (p : Nat) (G : GR) (sets : List (List Bool)) (A : AU) (h : PrAt w p G sets A) :
  Calls Try.prog 66 #[.pointer (some ⟨p, 0, none⟩)] w fun e w' => e = .returned (.bool false) ∧ w = w' := by
 obtain ⟨f, ai, an, ci, cn, h⟩ := h
 have c0 : w.cell? ⟨p, 0, none⟩ = some (.iface TFp (.pointer (some ⟨f, 0, none⟩))) := h.row.cell 0
 clear h
 go_enter Try.func66, Try.ntmps66
 go_wp2
 go_ret
 exact ⟨rfl, rfl⟩
theorem and_eq {a b : Nat} (ha : a < 18446744073709551616) (hb : b < 18446744073709551616) : (bits .and .u64 (a : Int) (b : Int) == (b : Int)) = (a &&& b == b) := by
 rw [bits_and_u64_nat a b ha hb]
 by_cases h : a &&& b = b
 ·rw [h]; simp
 ·have e1 : (a &&& b == b) = false := by simpa using h
  rw [e1, beq_eq_false_iff_ne]
  omega
theorem and_zero {a b : Nat} (ha : a < 18446744073709551616) (hb : b < 18446744073709551616) : (bits .and .u64 (a : Int) (b : Int) == 0) = (a &&& b == 0) := by
 rw [bits_and_u64_nat a b ha hb]
 by_cases h : a &&& b = 0
 ·rw [h]; rfl
 ·have e1 : (a &&& b == 0) = false := by simpa using h
  rw [e1, beq_eq_false_iff_ne]
  omega
theorem nodeP_at {A : AU} {k : Nat} (hk : k < A.nodes.length) : nodeP A k = A.nodes[k] := by
 unfold nodeP
 rw [Int.toNat_natCast]
 simp [List.getD, hk]
set_option maxHeartbeats 1000000 in
theorem preads_any (w : World) (p : Nat) (G : GR) (sets : List (List Bool)) (A : AU) (h : PrAt w p G sets A) (k : Nat) (hk : k < A.nodes.length) (lab : Nat) (hl : lab < 18446744073709551616) :
  Calls Try.prog 78 #[.pointer (some ⟨p, 0, none⟩), .int .i64 k, .int .u64 lab] w fun e w' => e = .returned (.bool (readsB (nodeP A k) lab)) ∧ Below w.heap.size w w' := by
 obtain ⟨f, ai, an, ci, cn, h⟩ := h
 have c3 : w.cell? ⟨p, 3, none⟩ = some (.slice an A.nodes.length cn) := h.row.cell 3
 obtain ⟨b, off, rfl, n0, n1, n2, a3, x3, n3, _⟩ := h.au.nodes.at k hk
 obtain ⟨u0, u1, u2, _⟩ := h.aok.nodes _ (List.getElem_mem hk)
 rw [nodeP_at hk]
 generalize A.nodes[k] = x at n0 n1 n2 n3 u0 u1 u2 ⊢
 have q1 := and_eq hl u0
 have q2 := and_zero hl u1
 have hr : Hid (readsB x lab = ((lab &&& x.need == x.need) && (lab &&& x.ban == 0))) := rfl
 generalize (lab &&& x.need == x.need) = b1 at q1 hr
 generalize (lab &&& x.ban == 0) = b2 at q2 hr
 rw [hr.out]
 obtain ⟨xn, xb, xi, xt⟩ := x
 simp only at q1 q2 n0 n1 n2 n3
 have hk2 : (k : Int) < (A.nodes.length : Int) := by omega
 clear h hr u0 u1 u2 hl
 cases b1 with
 | false =>
  go_enter Try.func78, Try.ntmps78
  go_wp2
  go_ret
  exact ⟨rfl, balloc (Below.refl _ _) _⟩
 | true =>
  go_enter Try.func78, Try.ntmps78
  go_wp2
  go_ret
  exact ⟨rfl, balloc (Below.refl _ _) _⟩
abbrev ppv (x : PP) : Value := .agg #[.int .i64 x.node, .int .i64 x.state, .int .i64 x.turn]
abbrev TPP : Nat := 82
theorem chk_sets {A : AU} (h : chk A = 0) : 0 ≤ A.sets ∧ A.sets ≤ 16 ∧ A.nodes.length ≤ 256 := ⟨(chk_good h).2.1, (chk_good h).2.2.1, (chk_good h).1⟩
theorem src_sets {G : GR} {sets : List (List Bool)} (h : srcB G sets = true) : gchk G = 0 ∧ sets.length ≤ 16 ∧ ∀ s ∈ sets, s.length = G.edges.length := by
 unfold srcB at h
 simp only [Bool.and_eq_true, decide_eq_true_eq, List.all_eq_true] at h
 exact ⟨h.1.1, h.1.2, h.2⟩
set_option maxHeartbeats 2000000 in
theorem pis_any (w : World) (p : Nat) (G : GR) (sets : List (List Bool)) (A : AU) (h : PrAt w p G sets A) (x : PP) :
  Calls Try.prog 80 #[.pointer (some ⟨p, 0, none⟩), ppv x] w fun e w' => e = .returned (.bool (isP sets A x)) ∧ Below w.heap.size w w' := by
 have N := Lib.hid (fun wr (hb : Below w.heap.size w wr) => pnone_any wr p G sets A (h.below hb))
 obtain ⟨f, ai, an, ci, cn, h⟩ := h
 obtain ⟨s0, s16, _⟩ := chk_sets h.chk
 obtain ⟨_, t16, _⟩ := src_sets h.src
 have hall : allS sets A ≤ 40 := by unfold allS; omega
 obtain ⟨w1, hw1⟩ : ∃ w1, w.alloc (.cells #[.int .i64 x.node, .int .i64 x.state, .int .i64 x.turn] TPP) = w1 := ⟨_, rfl⟩
 have hb1 : Below w.heap.size w w1 := by rw [← hw1]; exact balloc (Below.refl _ _) _
 have hx : RowAt w1 w.heap.size TPP [.int .i64 x.node, .int .i64 x.state, .int .i64 x.turn] := by rw [← hw1]; exact RowAt.new #[.int .i64 x.node, .int .i64 x.state, .int .i64 x.turn] rfl
 have hr := h.row.below hb1
 have c3 : w1.cell? ⟨p, 3, none⟩ = some (.slice an A.nodes.length cn) := hr.cell 3
 have c4 : w1.cell? ⟨p, 4, none⟩ = some (.int .i64 (allS sets A)) := hr.cell 4
 have x1 : w1.cell? ⟨w.heap.size, 1, none⟩ = some (.int .i64 x.state) := hx.cell 1
 have x2 : w1.cell? ⟨w.heap.size, 2, none⟩ = some (.int .i64 x.turn) := hx.cell 2
 obtain ⟨xn, xs, xt⟩ := x
 simp only at x1 x2 hw1
 obtain ⟨m, hm⟩ : ∃ m, m = allS sets A := ⟨_, rfl⟩
 rw [← hm] at c4 hall
 have hres : Hid (isP sets A ⟨xn, xs, xt⟩ = (inG A.nodes.length xs && inG (max m 1) xt)) := by show _ = _; rw [hm]; rfl
 generalize A.nodes.length = nn at c3 hres
 rw [hres.out]
 have N2 := Lib.hid (fun k => N.out (w1.drewN k) (bdrewN hb1 k))
 replace hm := Lib.hid hm
 clear h hr hx N s0 s16 t16 hres
 by_cases h0 : xs < 0
 ·have h0' : decide (0 ≤ xs) = false := by simpa using h0
  rw [show (inG nn xs && inG (max m 1) xt) = false by rw [inG_no h0]; rfl]
  go_enter Try.func80, Try.ntmps80
  go_wp2
  go_quiet ((go_at_call 66; exact Calls.quiet_of_same ((N2.out _).mono fun _ _ h => ⟨h.1, h.2.symm⟩)))
  go_wp2
  go_ret
  exact ⟨rfl, bdrewN hb1 _⟩
 have h0' : decide (0 ≤ xs) = true := by simpa using h0
 rw [inG_yes (show 0 ≤ xs by omega)]
 by_cases h1 : xs < (nn : Int)
 ·have h1' : decide (xs < (nn : Int)) = true := by simpa using h1
  rw [h1', Bool.true_and]
  by_cases h2 : xt < 0
  ·have h2' : decide (0 ≤ xt) = false := by simpa using h2
   rw [inG_no h2]
   go_enter Try.func80, Try.ntmps80
   go_wp2
   go_quiet ((go_at_call 66; exact Calls.quiet_of_same ((N2.out _).mono fun _ _ h => ⟨h.1, h.2.symm⟩)))
   go_wp2
   go_ret
   exact ⟨rfl, bdrewN hb1 _⟩
  ·have h2' : decide (0 ≤ xt) = true := by simpa using h2
   rw [inG_yes (show 0 ≤ xt by omega)]
   cases m with
   | zero =>
    go_enter Try.func80, Try.ntmps80
    go_wp2
    go_quiet ((go_at_call 66; exact Calls.quiet_of_same ((N2.out _).mono fun _ _ h => ⟨h.1, h.2.symm⟩)))
    go_wp2
    go_ret
    exact ⟨rfl, bdrewN hb1 _⟩
   | succ m =>
    have hmm : ¬ ((m + 1 : Nat) : Int) < 1 := by omega
    obtain ⟨M, hM⟩ : ∃ M, M = m + 1 := ⟨_, rfl⟩
    rw [← hM] at hmm c4 hall ⊢
    have hMx : max M 1 = M := by omega
    rw [hMx]
    have hM1 : 1 ≤ (M : Int) := by omega
    clear hM hMx
    go_enter Try.func80, Try.ntmps80
    go_wp2
    go_quiet ((go_at_call 66; exact Calls.quiet_of_same ((N2.out _).mono fun _ _ h => ⟨h.1, h.2.symm⟩)))
    go_wp2
    go_ret
    exact ⟨rfl, bdrewN hb1 _⟩
 ·have h1' : decide (xs < (nn : Int)) = false := by simpa using h1
  rw [h1', Bool.false_and]
  go_enter Try.func80, Try.ntmps80
  go_wp2
  go_quiet ((go_at_call 66; exact Calls.quiet_of_same ((N2.out _).mono fun _ _ h => ⟨h.1, h.2.symm⟩)))
  go_wp2
  go_ret
  exact ⟨rfl, bdrewN hb1 _⟩
end Go.Proofs.Ytfcpfcgcfaacnaa
namespace Go.Proofs.Ytfcpfcgcfaacnaa
open Go.RowKit
theorem bit_test {n s : Nat} (h : n < 18446744073709551616) : (bits .and .u64 ((n : Int) / 2 ^ s) 1 == 1) = n.testBit s := by
 have h1 : n / 2 ^ s < 18446744073709551616 := Nat.lt_of_le_of_lt (Nat.div_le_self _ _) h
 have h2 := bits_and_u64_nat (n / 2 ^ s) 1 h1 (by decide)
 rw [show ((1 : Nat) : Int) = 1 from rfl, Nat.and_one_is_mod, show ((n / 2 ^ s : Nat) : Int) = (n : Int) / 2 ^ s by push_cast; rfl] at h2
 rw [h2, Nat.testBit_eq_decide_div_mod_eq]
 rcases Nat.mod_two_eq_zero_or_one (n / 2 ^ s) with h | h <;> rw [h] <;> rfl
theorem bitsN_lt (sets : List (List Bool)) (i : Nat) : ∀ k, bitsN sets i k < 2 ^ k
 | 0 => by simp [bitsN]
 | k + 1 => by
  have ih := bitsN_lt sets i k
  simp only [bitsN]
  split
  ·exact Nat.or_lt_two_pow (Nat.lt_of_lt_of_le ih (Nat.pow_le_pow_right (by omega) (by omega))) (Nat.pow_lt_pow_right (by omega) (by omega))
  ·exact Nat.lt_of_lt_of_le ih (Nat.pow_le_pow_right (by omega) (by omega))
theorem inbits_lt {n : Nat} {sets : List (List Bool)} (hs : sets.length ≤ 16) (i : Nat) : (inbits n sets).getD i 0 < 65536 := by
 unfold inbits
 rw [List.getD_eq_getElem?_getD, List.getElem?_map]
 by_cases hi : i < n
 ·rw [List.getElem?_range hi]
  exact Nat.lt_of_lt_of_le (bitsN_lt _ _ _) (Nat.le_trans (Nat.pow_le_pow_right (by omega) hs) (by decide))
 ·rw [List.getElem?_eq_none (by simp; omega)]
  simp
theorem inbP_lt {G : GR} {sets : List (List Bool)} (hs : sets.length ≤ 16) (x : Int) : inbP G sets x < 65536 := by
 unfold inbP
 split
 ·exact inbits_lt hs _
 ·omega
set_option maxHeartbeats 2000000 in
theorem pof_any (w : World) (p : Nat) (G : GR) (sets : List (List Bool)) (A : AU) (h : PrAt w p G sets A) (x : PP) (k t : Nat) (hk : k < A.nodes.length) (hxs : x.state = k) (hxt : x.turn = t) (ht : t < allS sets A) :
  Calls Try.prog 81 #[.pointer (some ⟨p, 0, none⟩), ppv x] w fun e w' => e = .returned (.bool (ofP G sets A x)) ∧ Below w.heap.size w w' := by
 obtain ⟨f, ai, an, ci, cn, h⟩ := h
 obtain ⟨s0, s16, _⟩ := chk_sets h.chk
 obtain ⟨_, t16, _⟩ := src_sets h.src
 obtain ⟨S, hS⟩ := Int.eq_ofNat_of_zero_le s0
 obtain ⟨xn, xs, xt⟩ := x
 simp only at hxs hxt
 subst hxs hxt
 obtain ⟨w1, hw1⟩ : ∃ w1, w.alloc (.cells #[.int .i64 xn, .int .i64 k, .int .i64 t] TPP) = w1 := ⟨_, rfl⟩
 have hb1 : Below w.heap.size w w1 := by rw [← hw1]; exact balloc (Below.refl _ _) _
 have hx : RowAt w1 w.heap.size TPP [.int .i64 xn, .int .i64 k, .int .i64 t] := by rw [← hw1]; exact RowAt.new #[.int .i64 xn, .int .i64 k, .int .i64 t] rfl
 have x0 : w1.cell? ⟨w.heap.size, 0, none⟩ = some (.int .i64 xn) := hx.cell 0
 have x1 : w1.cell? ⟨w.heap.size, 1, none⟩ = some (.int .i64 k) := hx.cell 1
 have x2 : w1.cell? ⟨w.heap.size, 2, none⟩ = some (.int .i64 t) := hx.cell 2
 have hr := h.row.below hb1
 have c0 : w1.cell? ⟨p, 0, none⟩ = some (.iface TFp (.pointer (some ⟨f, 0, none⟩))) := hr.cell 0
 have c1 : w1.cell? ⟨p, 1, none⟩ = some (.int .i64 A.sets) := hr.cell 1
 rw [hS] at c1
 have hall : allS sets A = S + sets.length := by unfold allS; rw [hS]; rfl
 rw [hall] at ht
 have c3 : w1.cell? ⟨p, 3, none⟩ = some (.slice an A.nodes.length cn) := hr.cell 3
 by_cases hlt : t < S
 ·have hres : ofP G sets A ⟨xn, k, t⟩ = (nodeP A k).inn.testBit t := by
   unfold ofP
   rw [if_pos (by show (t : Int) < A.sets; rw [hS]; simp; omega)]
   simp [bitB]
  rw [hres, nodeP_at hk]
  have hd : decide (t < S) = true := by simpa using hlt
  obtain ⟨b, off, rfl, n0, n1, n2, _⟩ := (h.au.nodes.below hb1).at k hk
  have u2 := (h.aok.nodes _ (List.getElem_mem hk)).2.2.1
  generalize A.nodes[k] = nd at n0 n1 n2 u2 ⊢
  have q := bit_test (s := t) u2
  generalize nd.inn.testBit t = r at q
  generalize nd.inn = u at n2 q u2
  have hk2 : (k : Int) < (A.nodes.length : Int) := by omega
  have ht40 : (t : Int) ≤ 40 := by omega
  clear h hr hx hres hS s0 s16 t16 hall ht hlt c0
  go_enter Try.func81, Try.ntmps81
  go_wp2
  go_quiet (fail)
  go_wp2
  go_quiet (fail)
  go_wp2
  go_ret
  exact ⟨rfl, bdrewN (bdrewN hb1 _) _⟩
 ·obtain ⟨s, hs⟩ : ∃ s, t = S + s := ⟨t - S, by omega⟩
  have hres : ofP G sets A ⟨xn, k, t⟩ = (inbP G sets xn).testBit s := by
   unfold ofP
   rw [if_neg (by show ¬ (t : Int) < A.sets; rw [hS]; simp; omega)]
   show bitB _ _ = _
   unfold bitB
   congr 1
   show ((t : Int) - A.sets).toNat = s
   rw [hS]
   omega
  rw [hres]
  have hd : decide (t < S) = false := by simpa using hlt
  have q := bit_test (s := s) (Nat.lt_trans (inbP_lt (G := G) t16 xn) (by decide))
  have I := Lib.hid (fun wr (hb : Below w.heap.size w wr) => fin_any wr f G _ _ (h.fx.below hb) xn)
  have I2 : Hid (∀ m, Calls Try.prog 104 #[.pointer (some ⟨f, 0, none⟩), .int .i64 xn] (w1.drewN m) fun e w' => e = .returned (.int .u64 (inbP G sets xn : Int)) ∧ w1.drewN m = w') := fun m => I.out _ (bdrewN hb1 m)
  generalize (inbP G sets xn).testBit s = r at q
  have hw : IntKind.i64.wrap ((t : Int) - (S : Int)) = (s : Int) := by rw [show (t : Int) - (S : Int) = (s : Int) by omega]; exact IntWalk.i64_in _ (by omega)
  have hs40 : (s : Int) ≤ 40 := by omega
  obtain ⟨u, hu⟩ : ∃ u, u = inbP G sets xn := ⟨_, rfl⟩
  rw [← hu] at q I2
  replace hu := Lib.hid hu
  clear h hr hx hres hS s0 s16 t16 hall ht hlt hs I c3
  go_enter Try.func81, Try.ntmps81
  go_wp2
  go_quiet (fail)
  go_wp2
  obtain ⟨w2, hw2⟩ : ∃ w2, w1.drewN nq = w2 := ⟨_, rfl⟩
  have J2 : Hid (∀ m, Calls Try.prog 104 #[.pointer (some ⟨f, 0, none⟩), .int .i64 xn] (w2.drewN m) fun e w' => e = .returned (.int .u64 (u : Int)) ∧ w2.drewN m = w') := fun m => by
   have := I2.out (nq + m)
   rwa [← World.drewN_drewN, hw2] at this
  have hb2 : Below w.heap.size w w2 := by rw [← hw2]; exact bdrewN hb1 nq
  have d0 : w2.cell? ⟨p, 0, none⟩ = some (.iface TFp (.pointer (some ⟨f, 0, none⟩))) := by rw [← hw2]; exact c0
  have d1 : w2.cell? ⟨p, 1, none⟩ = some (.int .i64 S) := by rw [← hw2]; exact c1
  have y0 : w2.cell? ⟨w.heap.size, 0, none⟩ = some (.int .i64 xn) := by rw [← hw2]; exact x0
  have y2 : w2.cell? ⟨w.heap.size, 2, none⟩ = some (.int .i64 t) := by rw [← hw2]; exact x2
  rw [hw2]
  clear hw2 I2 c0 c1 x0 x1 x2 hb1 hw1
  have hM : ∀ (r : TypeId) (f : Nat) (w : World), Sem.run Try.prog (method (r + 1) TFp (.pointer (some ⟨f, 0, none⟩)) "In") w = Result.ok (104, .pointer (some ⟨f, 0, none⟩)) w := by
   intro r f w
   kernel_rfl
  go_quiet ((go_at_call 104; exact Calls.quiet_of_same ((J2.out _).mono fun _ _ h => ⟨h.1, h.2.symm⟩)))
  go_wp2
  go_ret
  exact ⟨rfl, bdrewN hb2 _⟩
end Go.Proofs.Ytfcpfcgcfaacnaa
namespace Go.Proofs.Ytfcpfcgcfaacnaa
open Go.RowKit
theorem OwnR.base {w : World} {b base e sz n cap : Nat} {a : Option Addr} {cells : List Value} (h : OwnR w base e sz a n cap cells) (hb : b ≤ base) : OwnR w b e sz a n cap cells := by
 unfold OwnR at h ⊢
 refine ⟨h.1, ?_⟩
 rcases h.2 with hv | ⟨g, cap', cur, hv, hg, r⟩
 ·exact .inl hv
 ·exact .inr ⟨g, cap', cur, hv, Nat.le_trans hb hg, r⟩
abbrev OB (a : Option Addr) (n c : Nat) : Option Nat := (Value.slice a n c).ownBlock
theorem infoEs : (Try.prog.info? TEs).map (fun i => (i.zero, i.size, i.bytes)) = some (some (.slice none 0 0), 1, 24) := by kernel_rfl
abbrev ER := Option Addr × Nat × List PR
abbrev eob (s : ER) : Option Nat := OB s.1 s.2.2.length s.2.1
abbrev ecell (s : ER) : Value := .slice s.1 s.2.2.length s.2.1
def rowsOf (S : List ER) : List (List PR) := S.map fun s => s.2.2
theorem rowsOf_snoc (S : List ER) (s : ER) : rowsOf (S ++ [s]) = rowsOf S ++ [s.2.2] := by simp [rowsOf]
theorem rowsOf_len (S : List ER) : (rowsOf S).length = S.length := by simp [rowsOf]
structure EsOwn (w : World) (base : Nat) (a : Option Addr) (cap : Nat) (S : List ER) : Prop where
 own : OwnR w base TEs 1 a S.length cap (S.map ecell)
 rows : ∀ s ∈ S, OwnP w base TE s.1 s.2.2.length s.2.1 s.2.2
 ne : ∀ s ∈ S, ∀ j, eob s = some j → OB a S.length cap ≠ some j
def EsBlk (a : Option Addr) (cap : Nat) (S : List ER) (j : Nat) : Prop := OB a S.length cap = some j ∨ ∃ s ∈ S, eob s = some j
section
variable {w w' : World} {base : Nat} {a : Option Addr} {cap : Nat} {S : List ER}
theorem EsOwn.nil (w : World) (base : Nat) : EsOwn w base none 0 [] := ⟨OwnR.nil _ _ _ _, by simp, by simp⟩
theorem EsOwn.blk (h : EsOwn w base a cap S) {j : Nat} (hj : EsBlk a cap S j) : base ≤ j ∧ j < w.heap.size := by
 rcases hj with hj | ⟨s, hs, hj⟩
 ·exact OwnR.lt h.own hj
 ·exact OwnR.lt (h.rows s hs) hj
theorem EsOwn.keeps {T : Nat → Prop} (h : EsOwn w base a cap S) (hk : Keeps w w' T) (hn : ∀ j, EsBlk a cap S j → ¬ T j) : EsOwn w' base a cap S :=
 ⟨OwnR.keeps h.own hk (fun j hj => hn j (.inl hj)), fun s hs => OwnR.keeps (h.rows s hs) hk (fun j hj => hn j (.inr ⟨s, hs, hj⟩)), h.ne⟩
theorem EsOwn.below (h : EsOwn w base a cap S) (hb : Below w.heap.size w w') : EsOwn w' base a cap S := h.keeps (T := fun _ => False) (Keeps.of_below hb) (fun _ _ h => h)
theorem EsOwn.app (h : EsOwn w base a cap S) {s : ER} (hs : OwnP w base TE s.1 s.2.2.length s.2.1 s.2.2) (hne : ∀ j, eob s = some j → OB a S.length cap ≠ some j) {wA w3 : World} (hA : Below w.heap.size w wA) {a' : Option Addr} {cap' : Nat}
  (ho : OwnR w3 base TEs 1 a' (S.length + 1) cap' (S.map ecell ++ [ecell s])) (hg : wA.grownBy w3 (OB a S.length cap)) (hat : OB a' (S.length + 1) cap' = OB a S.length cap ∨ OB a' (S.length + 1) cap' = some wA.heap.size) : EsOwn w3 base a' cap' (S ++ [s]) := by
 have hk : Keeps w w3 (fun j => OB a S.length cap = some j) := (Keeps.of_below (S := fun j => OB a S.length cap = some j) hA).trans (Keeps.of_grown (S := fun j => OB a S.length cap = some j) hg (fun j e => e)) (fun _ _ h => h)
 have hl : (S ++ [s]).length = S.length + 1 := by simp
 have hz := hA.size
 refine ⟨?_, fun t ht => ?_, fun t ht j hj => ?_⟩
 ·rw [hl, List.map_append]
  exact ho
 ·rcases List.mem_append.1 ht with h1 | h1
  ·exact OwnR.keeps (h.rows t h1) hk (fun j hj => h.ne t h1 j hj)
  ·simp only [List.mem_singleton] at h1
   subst h1
   exact OwnR.keeps hs hk hne
 ·rw [hl]
  rcases List.mem_append.1 ht with h1 | h1
  ·rcases hat with h2 | h2
   ·rw [h2]; exact h.ne t h1 j hj
   ·rw [h2]
    have := (OwnR.lt (h.rows t h1) hj).2
    simp only [ne_eq, Option.some.injEq]
    omega
  ·simp only [List.mem_singleton] at h1
   subst h1
   rcases hat with h2 | h2
   ·rw [h2]; exact hne j hj
   ·rw [h2]
    have := (OwnR.lt hs hj).2
    simp only [ne_eq, Option.some.injEq]
    omega
theorem EsOwn.edges (h : EsOwn w base a cap S) : EdgesAt w a (rowsOf S) := by
 intro h0
 rw [rowsOf_len] at h0
 obtain ⟨g, rfl, _, _⟩ := OwnR.addr h.own h0
 refine ⟨g, 0, rfl, fun i hi => ?_⟩
 rw [rowsOf_len] at hi
 have e : (rowsOf S)[i]'(by rw [rowsOf_len]; exact hi) = S[i].2.2 := by simp [rowsOf]
 have hr := h.rows _ (List.getElem_mem hi)
 refine ⟨S[i].1, S[i].2.1, ?_, ?_, ?_⟩
 ·rw [e, Nat.zero_add, OwnR.cell h.own i (by omega), List.getElem?_map, List.getElem?_eq_getElem hi]
  rfl
 ·rw [e]
  exact (OwnR.caps hr).1
 ·rw [e]
  exact PairsAt.of_own hr
end
def mixB (n : Nat) (sets : List (List Bool)) (k j : Nat) : List Nat := (List.range n).map fun i => if i < j then bitsN sets i (k + 1) else bitsN sets i k
theorem mixB_len (n : Nat) (sets : List (List Bool)) (k j : Nat) : (mixB n sets k j).length = n := by simp [mixB]
theorem mixB_zero (n : Nat) (sets : List (List Bool)) : mixB n sets 0 0 = List.replicate n 0 := by
 apply List.ext_getElem
 ·simp [mixB]
 ·intro i h1 h2
  simp [mixB, bitsN]
theorem mixB_next (n : Nat) (sets : List (List Bool)) (k : Nat) : mixB n sets k n = mixB n sets (k + 1) 0 := by
 apply List.ext_getElem
 ·simp [mixB]
 ·intro i h1 h2
  simp only [mixB_len] at h1
  simp [mixB, h1]
theorem mixB_end (n : Nat) (sets : List (List Bool)) : mixB n sets sets.length 0 = inbits n sets := by
 apply List.ext_getElem
 ·simp [mixB, inbits]
 ·intro i h1 h2
  simp [mixB, inbits]
theorem mixB_at (n : Nat) (sets : List (List Bool)) (k j : Nat) (hj : j < n) : (mixB n sets k j).getD j 0 = bitsN sets j k := by
 simp [mixB, List.getD, hj]
theorem mixB_no {n : Nat} {sets : List (List Bool)} {k j : Nat} (h : (sets.getD k []).getD j false = false) : mixB n sets k (j + 1) = mixB n sets k j := by
 apply List.ext_getElem
 ·simp [mixB]
 ·intro i h1 h2
  simp only [mixB, List.getElem_map, List.getElem_range]
  by_cases hi : i = j
  ·subst hi
   rw [if_pos (by omega), if_neg (by omega), bitsN, h]
   rfl
  ·by_cases hl : i < j
   ·rw [if_pos (by omega), if_pos hl]
   ·rw [if_neg (by omega), if_neg hl]
theorem mixB_yes {n : Nat} {sets : List (List Bool)} {k j : Nat} (h : (sets.getD k []).getD j false = true) : mixB n sets k (j + 1) = (mixB n sets k j).set j (bitsN sets j k ||| 2 ^ k) := by
 apply List.ext_getElem
 ·simp [mixB]
 ·intro i h1 h2
  rw [List.getElem_set]
  simp only [mixB, List.getElem_map, List.getElem_range]
  by_cases hi : j = i
  ·subst hi
   rw [if_pos (by omega), if_pos rfl, bitsN, h]
   rfl
  ·rw [if_neg hi]
   by_cases hl : i < j
   ·rw [if_pos (by omega), if_pos hl]
   ·rw [if_neg (by omega), if_neg hl]
def u64c (l : List Nat) : List Value := l.map fun n : Nat => .int .u64 n
theorem u64c_set (l : List Nat) (j x : Nat) : (u64c l).set j (.int .u64 x) = u64c (l.set j x) := by simp [u64c, List.map_set]
theorem u64c_at (l : List Nat) (j : Nat) (hj : j < l.length) : (u64c l)[j]? = some (.int .u64 (l.getD j 0 : Nat)) := by simp [u64c, List.getD, hj]
theorem nums_row {w : World} {B T : Nat} {l : List Nat} (h : RowAt w B T (u64c l)) : NumsAt .u64 w (some ⟨B, 0, none⟩) (natI l) := by
 intro _
 refine ⟨B, 0, rfl, fun i hi => ?_⟩
 rw [natI_len] at hi
 rw [Nat.zero_add, h.cell, u64c_at l i hi, natI_at]
def fitB (n : Nat) (sets : List (List Bool)) (k : Nat) : Bool := (sets.take k).all fun s => decide (s.length = n)
end Go.Proofs.Ytfcpfcgcfaacnaa
namespace Go.Proofs.Ytfcpfcgcfaacnaa
open Go.RowKit Go.WideMaps
theorem laidQ : laidOutB Try.prog = true := by kernel_rfl
theorem lawQ : KeyLaw Try.prog 82 := deep_law_laid laidQ (m := 2) (by omega) (of_decide_eq_true (by kernel_rfl)) (by kernel_rfl) (by rw [Try.underlying82])
theorem keyedQ : Go.Maps.Keyed Try.prog 82 := Go.Maps.Keyed.of_law lawQ
def qkey (p : PP) : Lit := .string (keyBytes [.int .i64 p.node, .int .i64 p.state, .int .i64 p.turn])
theorem keyOf_qq {p : PP} (h : okPP p) : keyOf Try.prog 82 (ppv p) = some (qkey p) := by
 obtain ⟨h1, h2, h3⟩ := h
 have hk : Try.prog.keyType 82 = true := by kernel_rfl
 have hc : Try.prog.cellsOf 82 = 3 := by kernel_rfl
 have hi : Try.prog.cellsOf 3 = 1 := by kernel_rfl
 have hs : ∃ d, Try.prog.types.size + 1 = d + 1 + 1 := by
  have h1 : 1 ≤ Try.prog.types.size := of_decide_eq_true (by kernel_rfl)
  exact ⟨Try.prog.types.size - 1, by omega⟩
 obtain ⟨d, hs⟩ := hs
 unfold keyOf
 rw [Try.underlying82]
 simp only [hk, Value.formed, Try.underlying82, hc]
 rw [hs]
 simp [Program.keyLits, Try.underlying82, Try.underlying3, hc, hi, h1, h2, h3, Value.cells, qkey]
theorem qkey_inj {p q : PP} (hp : okPP p) (hq : okPP q) (h : qkey p = qkey q) : p = q := by
 have h1 := keyOf_qq hp
 rw [h] at h1
 have := keyedQ.inj h1 (keyOf_qq hq)
 simp only [ppv, Value.agg.injEq, Array.mk.injEq, List.cons.injEq, Value.int.injEq, true_and, and_true] at this
 cases p
 cases q
 simp only at this
 obtain ⟨rfl, rfl, rfl⟩ := this
 rfl
theorem qkey_is (p : PP) : WideAt.IsKeyLit (qkey p) := trivial
def QD : List PP → DataW Unit → DataW Unit
 | [], D => D
 | x :: l, D => QD l (D.put (qkey x) (.lit (.bool true)))
theorem QD_snoc : ∀ (l : List PP) (D : DataW Unit) (x : PP), QD (l ++ [x]) D = (QD l D).put (qkey x) (.lit (.bool true))
 | [], _, _ => rfl
 | _ :: l, _, x => QD_snoc l _ x
theorem snoc_rec {α : Type} {C : List α → Prop} (h0 : C []) (h1 : ∀ l x, C l → C (l ++ [x])) (l : List α) : C l := by
 have : ∀ n (l : List α), l.length = n → C l := by
  intro n
  induction n with
  | zero => intro l hl; rw [List.eq_nil_of_length_eq_zero hl]; exact h0
  | succ n ih =>
   intro l hl
   have hne : l ≠ [] := by intro e; rw [e] at hl; cases hl
   rw [← List.dropLast_concat_getLast hne]
   exact h1 _ _ (ih _ (by rw [List.length_dropLast]; omega))
 exact this _ l rfl
theorem QD_isMap (l : List PP) : Go.Maps.IsMap (QD l (.map [])) := by
 induction l using snoc_rec with
 | h0 => exact Go.Maps.isMap_empty
 | h1 l p ih => rw [QD_snoc]; exact ih.put _ _
theorem QD_look (l : List PP) (hok : ∀ p ∈ l, okPP p) (q : PP) (hq : okPP q) : (QD l (.map [])).atKey (qkey q) (.lit (.bool false)) = .lit (.bool (decide (q ∈ l))) := by
 induction l using snoc_rec with
 | h0 => rfl
 | h1 l p ih =>
  have i1 := ih (fun x hx => hok x (by simp [hx]))
  rw [QD_snoc]
  by_cases he : q = p
  ·subst he
   rw [Go.Maps.atKey_put_same (QD_isMap l) (qkey_is _)]
   simp
  ·have hk : qkey q ≠ qkey p := fun e => he (qkey_inj hq (hok p (by simp)) e)
   rw [Go.Maps.atKey_put_other hk, i1]
   simp [he]
structure QMap (w : World) (b : Nat) (l : List PP) : Prop where
 own : w.ownsMap (H := Unit) Try.prog 82 (plainElem Try.prog 4) b l.length (QD l (.map []))
 ok : ∀ p ∈ l, okPP p
theorem QMap.lt {w : World} {b : Nat} {l : List PP} (h : QMap w b l) : b < w.heap.size := World.ownsMap.lt h.own
theorem QMap.keep {w w' : World} {b : Nat} {l : List PP} (h : QMap w b l) (hk : w'.heap[b]? = w.heap[b]?) : QMap w' b l := by
 obtain ⟨⟨es, cl, hb, r⟩, h3⟩ := h
 exact ⟨⟨es, cl, hk.trans hb, r⟩, h3⟩
theorem QMap.keeps {w w' : World} {b : Nat} {l : List PP} {S : Nat → Prop} (h : QMap w b l) (hk : Keeps w w' S) (hn : ¬ S b) : QMap w' b l := h.keep (hk.block b h.lt hn)
theorem QMap.made (w : World) : QMap (w.alloc (.map #[] 0)) w.heap.size [] := ⟨World.ownsMap_made _ _ _ _, by simp⟩
theorem zeroBool (w : World) : (zeroValue 4).run Try.prog w = .ok (.bool false) w := by kernel_rfl
theorem plainBool_inv {P : Program} {e : TypeId} (he : P.underlying e = some .bool) {v : Value} {z : DataW Unit × List MemPlace} (h : plainElem P e v = some z) : ∃ b, v = .bool b ∧ z = (.lit (.bool b), []) := by
 unfold plainElem at h
 rw [he] at h
 cases v <;> simp at h
 exact ⟨_, rfl, h.symm⟩
theorem QMap.look {w : World} {b : Nat} {l : List PP} (h : QMap w b l) {p : PP} (hp : okPP p) :
  (Instr.lookup 105 (.map (some b)) (ppv p) false).run Try.prog w = .ok (.bool (decide (p ∈ l))) w := by
 obtain ⟨v, ps, hrun, hv⟩ := h.own.lookup keyedQ Try.underlying105 (zeroBool w) (zd := .lit (.bool false)) (zp := []) (plainElem_bool Try.underlying4 false) (keyOf_qq hp)
 obtain ⟨c, rfl, hc⟩ := plainBool_inv Try.underlying4 hv
 simp only [Prod.mk.injEq] at hc
 rw [QD_look l h.ok p hp] at hc
 simp only [DataW.lit.injEq, Lit.bool.injEq] at hc
 rw [hrun, hc.1]
theorem QMap.put {w : World} {b : Nat} {l : List PP} (h : QMap w b l) {p : PP} (hp : okPP p) (hl : l.length ≤ 1000000000) :
  ∃ w', (Instr.mapUpdate 105 (.map (some b)) (ppv p) (.bool true)).run Try.prog w = .ok () w' ∧ QMap w' b (l ++ [p]) ∧ w.grownBy w' (some b) := by
 obtain ⟨w', hrun, ho, hg⟩ := h.own.update keyedQ Try.underlying105 (by unfold maxLen; omega) (keyOf_qq hp) (plainElem_bool (H := Unit) Try.underlying4 true)
 refine ⟨w', hrun, ⟨?_, ?_⟩, hg⟩
 ·rw [QD_snoc, List.length_append]
  exact ho
 ·intro x hx
  rcases List.mem_append.1 hx with h1 | h1
  ·exact h.ok x h1
  ·simp at h1; subst h1; exact hp
def qcells (l : List PP) : List Value := l.flatMap fun p => [.int .i64 p.node, .int .i64 p.state, .int .i64 p.turn]
theorem qcells_snoc (l : List PP) (p : PP) : qcells (l ++ [p]) = qcells l ++ [.int .i64 p.node, .int .i64 p.state, .int .i64 p.turn] := by simp [qcells]
theorem qcells_len (l : List PP) : (qcells l).length = l.length * 3 := by
 induction l with
 | nil => rfl
 | cons p l ih => simp only [qcells, List.flatMap_cons, List.length_append, List.length_cons, List.length_nil] at ih ⊢; omega
theorem qcells_at : ∀ (l : List PP) (i : Nat) (hi : i < l.length), (qcells l)[i * 3]? = some (.int .i64 l[i].node) ∧ (qcells l)[i * 3 + 1]? = some (.int .i64 l[i].state) ∧ (qcells l)[i * 3 + 2]? = some (.int .i64 l[i].turn)
 | p :: l, 0, _ => by simp [qcells]
 | p :: l, i + 1, hi => by
  have := qcells_at l i (by simpa using hi)
  simp only [qcells, List.flatMap_cons, List.getElem_cons_succ] at this ⊢
  rw [show (i + 1) * 3 = 3 + i * 3 by omega, show 3 + i * 3 + 1 = 3 + (i * 3 + 1) by omega, show 3 + i * 3 + 2 = 3 + (i * 3 + 2) by omega]
  rw [List.getElem?_append_right (by simp), List.getElem?_append_right (by simp only [List.length_cons, List.length_nil]; omega), List.getElem?_append_right (by simp only [List.length_cons, List.length_nil]; omega)]
  simpa using this
def OwnQ (w : World) (base e : Nat) (a : Option Addr) (cap : Nat) (l : List PP) : Prop := OwnR w base e 3 a l.length cap (qcells l)
theorem OwnQ.at {w : World} {base e cap : Nat} {a : Option Addr} {l : List PP} (h : OwnQ w base e a cap l) (i : Nat) (hi : i < l.length) :
  ∃ g, a = some ⟨g, 0, none⟩ ∧ base ≤ g ∧ g < w.heap.size ∧ w.cell? ⟨g, i * 3, none⟩ = some (.int .i64 l[i].node) ∧ w.cell? ⟨g, i * 3 + 1, none⟩ = some (.int .i64 l[i].state) ∧ w.cell? ⟨g, i * 3 + 2, none⟩ = some (.int .i64 l[i].turn) := by
 obtain ⟨g, rfl, h1, h2⟩ := OwnR.addr h (by omega)
 obtain ⟨c1, c2, c3⟩ := qcells_at l i hi
 exact ⟨g, rfl, h1, h2, by rw [OwnR.cell h _ (by omega), c1], by rw [OwnR.cell h _ (by omega), c2], by rw [OwnR.cell h _ (by omega), c3]⟩
def PpsAt (w : World) (a : Option Addr) (l : List PP) : Prop :=
 0 < l.length → ∃ b off, a = some ⟨b, off, none⟩ ∧ ∀ i (hi : i < l.length), w.cell? ⟨b, off + i * 3, none⟩ = some (.int .i64 l[i].node) ∧ w.cell? ⟨b, off + i * 3 + 1, none⟩ = some (.int .i64 l[i].state) ∧ w.cell? ⟨b, off + i * 3 + 2, none⟩ = some (.int .i64 l[i].turn)
theorem PpsAt.of_own {w : World} {base e cap : Nat} {a : Option Addr} {l : List PP} (h : OwnQ w base e a cap l) : PpsAt w a l := fun h0 => by
 obtain ⟨g, rfl, _, _, _, _⟩ := h.at 0 h0
 refine ⟨g, 0, rfl, fun i hi => ?_⟩
 obtain ⟨g', hg', _, _, c⟩ := h.at i hi
 cases hg'
 rw [Nat.zero_add]
 exact c
theorem PpsAt.below {w w' : World} {a : Option Addr} {l : List PP} (h : PpsAt w a l) (hb : Below w.heap.size w w') : PpsAt w' a l := fun h0 => by
 obtain ⟨b, off, ha, hc⟩ := h h0
 exact ⟨b, off, ha, fun i hi => ⟨bcell hb (hc i hi).1, bcell hb (hc i hi).2.1, bcell hb (hc i hi).2.2⟩⟩
theorem PpsAt.at {w : World} {a : Option Addr} {l : List PP} (h : PpsAt w a l) (i : Nat) (hi : i < l.length) : ∃ b off, a = some ⟨b, off, none⟩ ∧ b < w.heap.size ∧ w.cell? ⟨b, off + i * 3, none⟩ = some (.int .i64 l[i].node) ∧ w.cell? ⟨b, off + i * 3 + 1, none⟩ = some (.int .i64 l[i].state) ∧ w.cell? ⟨b, off + i * 3 + 2, none⟩ = some (.int .i64 l[i].turn) := by
 obtain ⟨b, off, ha, hc⟩ := h (by omega)
 exact ⟨b, off, ha, World.block_lt_of_cell? w _ (hc i hi).1, hc i hi⟩
theorem infoQ : (Try.prog.info? TPP).map (fun i => (i.zero, i.size, i.bytes)) = some (some (.agg #[.int .i64 0, .int .i64 0, .int .i64 0]), 3, 24) := by kernel_rfl
structure Acc (w : World) (B mb : Nat) (a : Option Addr) (c : Nat) (l : List PP) : Prop where
 map : QMap w mb l
 own : OwnQ w B TPP a c l
 hmb : B ≤ mb
 ne : Hid (∀ j, (Value.slice a l.length c).ownBlock = some j → j ≠ mb)
def HotQ (mb : Nat) (a : Option Addr) (n c : Nat) (j : Nat) : Prop := j = mb ∨ (Value.slice a n c).ownBlock = some j
theorem Acc.keeps {w w' : World} {B mb : Nat} {a : Option Addr} {c : Nat} {l : List PP} {S : Nat → Prop} (h : Acc w B mb a c l) (hk : Keeps w w' S) (hn : ∀ j, HotQ mb a l.length c j → ¬ S j) : Acc w' B mb a c l :=
 ⟨h.map.keeps hk (hn _ (.inl rfl)), OwnR.keeps h.own hk (fun j hj => hn j (.inr hj)), h.hmb, h.ne⟩
theorem Acc.below {w w' : World} {B mb : Nat} {a : Option Addr} {c : Nat} {l : List PP} (h : Acc w B mb a c l) (hb : Below w.heap.size w w') : Acc w' B mb a c l :=
 h.keeps (S := fun _ => False) (Keeps.of_below hb) (fun _ _ h => h)
theorem Acc.hotB {w : World} {B mb : Nat} {a : Option Addr} {c : Nat} {l : List PP} (h : Acc w B mb a c l) {j : Nat} (hj : HotQ mb a l.length c j) : B ≤ j ∧ j < w.heap.size := by
 rcases hj with rfl | hj
 ·exact ⟨h.hmb, h.map.lt⟩
 ·exact OwnR.lt h.own hj
def Finds (w : World) (mb : Nat) (a : Option Addr) (n c : Nat) (w' : World) (a' : Option Addr) (n' c' : Nat) : Prop :=
 Keeps w w' (HotQ mb a n c) ∧ Hid (∀ j, (Value.slice a' n' c').ownBlock = some j → (Value.slice a n c).ownBlock = some j ∨ w.heap.size ≤ j)
theorem Finds.refl (w : World) (mb : Nat) (a : Option Addr) (n c : Nat) : Finds w mb a n c w a n c := ⟨Keeps.refl _ _, fun _ h => .inl h⟩
theorem Finds.trans {w w1 w2 : World} {mb : Nat} {a a1 a2 : Option Addr} {n n1 n2 c c1 c2 : Nat} (h : Finds w mb a n c w1 a1 n1 c1) (k : Finds w1 mb a1 n1 c1 w2 a2 n2 c2) : Finds w mb a n c w2 a2 n2 c2 :=
 ⟨h.1.trans k.1 (fun j hj hh => by
  rcases hh with h1 | h1
  ·exact .inl h1
  ·rcases h.2.out j h1 with h2 | h2
   ·exact .inr h2
   ·omega), fun j hj => by
  rcases k.2.out j hj with h1 | h1
  ·exact h.2.out j h1
  ·exact .inr (Nat.le_trans h.1.size h1)⟩
theorem Finds.below_r {w w1 w2 : World} {mb : Nat} {a a1 : Option Addr} {n n1 c c1 : Nat} (h : Finds w mb a n c w1 a1 n1 c1) (hb : Below w1.heap.size w1 w2) : Finds w mb a n c w2 a1 n1 c1 :=
 ⟨h.1.trans (Keeps.of_below (S := fun _ => False) hb) (fun _ _ h => h.elim), h.2⟩
end Go.Proofs.Ytfcpfcgcfaacnaa
namespace Go.Proofs.Ytfcpfcgcfaacnaa
open Go.RowKit
def Paired (w : World) (B mb : Nat) (a : Option Addr) (n c : Nat) (l : List PP) (e : Ending) (w' : World) : Prop :=
 ∃ a' c', e = .returned (.slice a' l.length c') ∧ Acc w' B mb a' c' l ∧ Finds w mb a n c w' a' l.length c'
theorem meth_Label (r f : Nat) (w : World) : Sem.run Try.prog (method (r + 1) TFp (.pointer (some ⟨f, 0, none⟩)) "Label") w = Result.ok (105, .pointer (some ⟨f, 0, none⟩)) w := by kernel_rfl
theorem labP_lt {G : GR} (ok : GOk G) (x : Int) : labP G x < 18446744073709551616 := by
 unfold labP
 split
 ·rw [List.getD_eq_getElem?_getD]
  cases hx : G.labels[x.toNat]? with
  | none => decide
  | some v => exact ok.labs v (List.mem_of_getElem? hx)
 ·decide
set_option maxHeartbeats 4000000 in
theorem pairs_any (W w : World) (p : Nat) (G : GR) (sets : List (List Bool)) (A : AU) (h : PrAt W p G sets A) (hb : Below W.heap.size W w) (B mb : Nat) (hWB : W.heap.size ≤ B) (hBw : B ≤ w.heap.size)
  (a : Option Addr) (c : Nat) (out : List PP) (hA : Acc w B mb a c out) (af : Option Addr) (cf : Nat) (fs : List Int) (hf : NumsAt .i64 W af fs) (hfs : ∀ q ∈ fs, 0 ≤ q ∧ q < (A.nodes.length : Int)) (x t : Int) (hx : (Lit.int .i64 x).wf = true) (ht : (Lit.int .i64 t).wf = true) (hl : out.length + fs.length ≤ 1000000) :
  Calls Try.prog 67 #[.pointer (some ⟨p, 0, none⟩), .slice a out.length c, .map (some mb), .int .i64 x, .slice af fs.length cf, .int .i64 t] w (Paired w B mb a out.length c (pairsP A (labP G x) x t out fs)) := by
 have hP := Lib.hid (fun wr (hb : Below W.heap.size W wr) => h.below hb)
 obtain ⟨f, ai, an, ci, cn, h⟩ := h
 have L := Lib.hid (flabel_any w f G _ _ (h.fx.below hb) x)
 have hlab := labP_lt h.ok x
 have hnl := (chk_sets h.chk).2.2
 have c0 : w.cell? ⟨p, 0, none⟩ = some (.iface TFp (.pointer (some ⟨f, 0, none⟩))) := (h.row.below hb).cell 0
 obtain ⟨lab, hlb⟩ : ∃ lab, lab = labP G x := ⟨_, rfl⟩
 rw [← hlb] at L hlab ⊢
 replace hf := Lib.hid hf
 replace hfs := Lib.hid hfs
 replace hx := Lib.hid hx
 replace ht := Lib.hid ht
 have hA0 := Lib.hid hA
 replace hb := Lib.hid hb
 have RD := Lib.hid (fun wr (hb : Below W.heap.size W wr) k hk => preads_any wr p G sets A (hP.out wr hb) k hk lab hlab)
 clear h hA hlb hlab
 have hM := meth_Label
 go_enter Try.func67, Try.ntmps67
 go_wp2_with fail
 refine L.out.mono ?_
 rintro e w1 ⟨rfl, rfl⟩
 clear L c0
 go_wp2
 go_loopw [1, 25] (fun lv iv wr => ∃ (k : Nat) (l : List PP) (al : Option Addr) (cl : Nat), k ≤ fs.length ∧ iv = .int .i64 k ∧ lv = .slice al l.length cl ∧ Hid (l = pairsP A lab x t out (fs.take k)) ∧ Acc wr B mb al cl l ∧ Finds w mb a out.length c wr al l.length cl) (fun _ iv _ => fs.length - (intOf iv).toNat)
 case atStart => exact ⟨0, out, a, c, Nat.zero_le _, rfl, rfl, rfl, hA0.out, Finds.refl _ _ _ _ _⟩
 case round =>
  obtain ⟨k, l, al, cl, hk, rfl, rfl, hs, hA, hF⟩ := hrel
  have hln : l.length ≤ 1000000 := by
   rw [hs.out]
   have := pairsP_len A lab x t (fs.take k) out
   rw [List.length_take] at this
   omega
  have hbr : Below W.heap.size W wr := hF.1.below hb.out (fun j hj => Nat.le_trans hWB (hA0.out.hotB hj).1)
  by_cases hlt : k < fs.length
  ·obtain ⟨bb, off, q, rfl, cx, hxx⟩ := (hf.out.below hbr).at k hlt
   have hq2 : q = fs[k] := by rw [hxx.out, List.getD_eq_getElem?_getD, List.getElem?_eq_getElem hlt]; rfl
   have hqr := hfs.out _ (List.getElem_mem hlt)
   rw [← hq2] at hqr
   obtain ⟨s, rfl⟩ := Int.eq_ofNat_of_zero_le hqr.1
   have hsn : s < A.nodes.length := by omega
   have hst := pairsP_snoc A lab x t out (fs.take k) s
   rw [← hs.out, hq2, show fs.take k ++ [fs[k]] = fs.take (k + 1) by rw [List.take_add_one, List.getElem?_eq_getElem hlt, Option.toList_some], ← hq2] at hst
   have hok : okPP ⟨x, s, t⟩ := ⟨hx.out, by unfold Lit.wf; simp [IntKind.min, IntKind.max, IntKind.signed, IntKind.bits]; omega, ht.out⟩
   have hbb : Below wr.heap.size wr (wr.alloc (.cells #[.int .i64 x, .int .i64 s, .int .i64 t] TPP)) := balloc (Below.refl _ _) _
   have C := Lib.hid (RD.out _ (btrans hbr hbb) s hsn)
   have r0 := Lib.hid (RowAt.new (w := wr) (T := TPP) #[.int .i64 x, .int .i64 s, .int .i64 t] rfl)
   generalize readsB (nodeP A s) lab = rd at C hst
   have hlt2 : (k : Int) < (fs.length : Int) := by omega
   have hst := Lib.hid hst
   have hls : Hid (l.length = l.length) := rfl
   replace hok := Lib.hid hok
   have hAw := Lib.hid hA
   have hFw := Lib.hid hF
   clear hqr hsn hq2 hxx hM hA hF
   cases rd with
   | false =>
    have hs2 : Hid (l = pairsP A lab x t out (fs.take (k + 1))) := by show _ = _; rw [hst.out, if_neg (by decide)]
    clear hst hs
    go_wp2_with fail
    refine C.out.mono ?_
    rintro e w2 ⟨rfl, hb2⟩
    have hb3 := btrans hbb hb2
    go_wp2
    go_roundw
    case rel => exact ⟨k + 1, l, al, cl, by omega, by go_num, rfl, hs2, hAw.out.below hb3, hFw.out.below_r hb3⟩
    case measure => simp [intOf]; omega
   | true =>
    by_cases hin : (⟨x, s, t⟩ : PP) ∈ l
    ·have hs2 : Hid (l = pairsP A lab x t out (fs.take (k + 1))) := by show _ = _; rw [hst.out, if_pos rfl]; unfold addP; rw [if_pos hin]
     have LK := Lib.hid (fun w2 (hm : QMap w2 mb l) => hm.look hok.out)
     rw [decide_eq_true hin] at LK
     clear hst hs hin
     go_wp2_with fail
     refine C.out.mono ?_
     rintro e w2 ⟨rfl, hb2⟩
     have hb3 := btrans hbb hb2
     have lk := LK.out w2 (hAw.out.map.keeps (S := fun _ => False) (Keeps.of_below hb3) (fun h => h))
     have r2 := r0.out.below hb2
     have x0 : w2.cell? ⟨wr.heap.size, 0, none⟩ = some (.int .i64 x) := r2.cell 0
     have x1 : w2.cell? ⟨wr.heap.size, 1, none⟩ = some (.int .i64 s) := r2.cell 1
     have x2 : w2.cell? ⟨wr.heap.size, 2, none⟩ = some (.int .i64 t) := r2.cell 2
     simp only [ppv] at lk
     clear r2 LK C hb2 hbb
     go_wp2
     go_roundw
     case rel => exact ⟨k + 1, l, al, cl, by omega, by go_num, rfl, hs2, hAw.out.below hb3, hFw.out.below_r hb3⟩
     case measure => simp [intOf]; omega
    ·have hs2 : Hid (l ++ [⟨x, s, t⟩] = pairsP A lab x t out (fs.take (k + 1))) := by show _ = _; rw [hst.out, if_pos rfl]; unfold addP; rw [if_neg hin]
     have LK := Lib.hid (fun w2 (hm : QMap w2 mb l) => hm.look hok.out)
     rw [decide_eq_false hin] at LK
     clear hst hs hin
     go_wp2_with fail
     refine C.out.mono ?_
     rintro e w2 ⟨rfl, hb2⟩
     have hb3 := btrans hbb hb2
     have hA2 := hAw.out.below hb3
     have hF2 := hFw.out.below_r hb3
     have lk := LK.out w2 hA2.map
     have r2 := r0.out.below hb2
     have x0 : w2.cell? ⟨wr.heap.size, 0, none⟩ = some (.int .i64 x) := r2.cell 0
     have x1 : w2.cell? ⟨wr.heap.size, 1, none⟩ = some (.int .i64 s) := r2.cell 1
     have x2 : w2.cell? ⟨wr.heap.size, 2, none⟩ = some (.int .i64 t) := r2.cell 2
     obtain ⟨w3, hrun3, hm3, hg3⟩ := hA2.map.put hok.out (by omega)
     have hmlt := hAw.out.map.lt
     have K3 : Keeps w2 w3 (fun j => j = mb) := Keeps.of_grown hg3 (fun j e => by cases e; rfl)
     have r3 := r2.keeps K3 (by omega)
     have y0 : w3.cell? ⟨wr.heap.size, 0, none⟩ = some (.int .i64 x) := r3.cell 0
     have y1 : w3.cell? ⟨wr.heap.size, 1, none⟩ = some (.int .i64 s) := r3.cell 1
     have y2 : w3.cell? ⟨wr.heap.size, 2, none⟩ = some (.int .i64 t) := r3.cell 2
     have own3 : OwnR w3 B TPP 3 al l.length cl (qcells l) := OwnR.keeps hA2.own K3 (fun j hj => hA2.ne.out j hj)
     have hB3 : B ≤ w3.heap.size := by have := K3.size; have := hb3.size; have := hFw.out.1.size; omega
     simp only [ppv] at lk hrun3
     replace own3 := Lib.hid own3
     replace hB3 := Lib.hid hB3
     replace K3 := Lib.hid K3
     replace hA2 := Lib.hid hA2
     replace hF2 := Lib.hid hF2
     replace hm3 := Lib.hid hm3
     clear r2 r3 LK C hb2 hbb hg3 hmlt
     have hZ := balloc (Below.refl w3.heap.size w3) (.cells #[.int .i64 x, .int .i64 s, .int .i64 t] TPP)
     have hB4 : Hid (B ≤ (w3.alloc (.cells #[.int .i64 x, .int .i64 s, .int .i64 t] TPP)).heap.size) := Nat.le_trans hB3.out hZ.size
     have hZ := Lib.hid hZ
     go_wp2_with (at_builtin; refine wp_appR rfl _ _ 48 TPP (.agg #[.int .i64 0, .int .i64 0, .int .i64 0]) 3 24 rfl Try.underlying48 infoQ rfl (by decide) B al l.length cl (qcells l) rfl (OwnR.alloc own3.out _) w3.heap.size 1 [.int .i64 x, .int .i64 s, .int .i64 t] rfl rfl (new_cells w3 #[.int .i64 x, .int .i64 s, .int .i64 t] TPP rfl) (by intro u hu; simp at hu; rcases hu with rfl | rfl | rfl <;> rfl) (by unfold maxLen; omega) (by omega) hB4.out ?_)
     intro a' c' w4 ho4 hg4 hat4
     have K4 : Keeps w3 w4 (fun j => (Value.slice al l.length cl).ownBlock = some j) := (Keeps.alloc w3 _ _).trans (Keeps.of_grown (S := fun j => (Value.slice al l.length cl).ownBlock = some j) hg4 (fun j e => e)) (fun _ _ h => h)
     have hfr : ∀ j, (Value.slice a' (l.length + 1) c').ownBlock = some j → (Value.slice al l.length cl).ownBlock = some j ∨ w3.heap.size ≤ j := by
      intro j hj
      rcases hat4 with h | h
      ·exact .inl (by rw [← h]; exact hj)
      ·rw [h] at hj
       simp at hj
       exact .inr (by omega)
     have el : (l ++ [(⟨x, s, t⟩ : PP)]).length = l.length + 1 := by simp
     have K24 : Keeps w2 w4 (HotQ mb al l.length cl) := ((Keeps.trans (S := HotQ mb al l.length cl) ⟨K3.out.os, K3.out.tape, K3.out.output, K3.out.size, fun j hj hn => K3.out.block j hj (fun e => hn (.inl e))⟩ K4 (fun j _ h => .inr h)))
     have hA4 : Hid (Acc w4 B mb a' c' (l ++ [⟨x, s, t⟩])) := by
      refine ⟨hm3.out.keeps K4 (fun e => hA2.out.ne.out _ e rfl), ?_, hA2.out.hmb, ?_⟩
      ·unfold OwnQ
       rw [el, qcells_snoc]
       exact ho4
      ·rw [el]
       intro j hj
       rcases hfr j hj with h | h
       ·exact hA2.out.ne.out j h
       ·have := hm3.out.lt
        omega
     have hF4 : Hid (Finds w mb a out.length c w4 a' (l.length + 1) c') := hF2.out.trans ⟨K24, fun j hj => by
      rcases hfr j hj with h | h
      ·exact .inl h
      ·exact .inr (Nat.le_trans K3.out.size h)⟩
     clear ho4 hg4 hat4 K4 hfr K24 hA2 hF2 hAw hFw K3 hm3 own3 hB3 hB4 hZ x0 x1 x2 y0 y1 y2 lk hrun3 hb3 r0
     go_wp2
     go_roundw
     case rel => exact ⟨k + 1, l ++ [⟨x, s, t⟩], a', c', by omega, by go_num, by rw [el], hs2, hA4.out, by rw [el]; exact hF4.out⟩
     case measure => simp [intOf]; omega
  ·have hke : k = fs.length := by omega
   subst hke
   rw [List.take_length] at hs
   replace hA := Lib.hid hA
   replace hF := Lib.hid hF
   go_wp2
   go_ret
   rw [← hs.out]
   exact ⟨al, cl, rfl, hA.out, hF.out⟩
end Go.Proofs.Ytfcpfcgcfaacnaa
namespace Go.Proofs.Ytfcpfcgcfaacnaa
open Go.RowKit
structure Lt (G : GR) (sets : List (List Bool)) (A : AU) : Prop where
 e : G.edges.length ≤ 12
 i : G.init.length ≤ 20
 l : G.labels.length ≤ 40
 s : sets.length ≤ 20
 n : A.nodes.length ≤ 8
 ai : A.init.length ≤ 20
 r : ∀ l ∈ G.edges, l.length ≤ 12
 t : ∀ x ∈ A.nodes, x.to.length ≤ 12
def GivesQ (w : World) (l : List PP) (e : Ending) (w' : World) : Prop := ∃ a c, e = .returned (.slice a l.length c) ∧ OwnQ w' w.heap.size TPP a c l ∧ Below w.heap.size w w'
theorem meth_First (r f : Nat) (w : World) : Sem.run Try.prog (method (r + 1) TFp (.pointer (some ⟨f, 0, none⟩)) "First") w = Result.ok (103, .pointer (some ⟨f, 0, none⟩)) w := by kernel_rfl
theorem meth_Edges (r f : Nat) (w : World) : Sem.run Try.prog (method (r + 1) TFp (.pointer (some ⟨f, 0, none⟩)) "Edges") w = Result.ok (102, .pointer (some ⟨f, 0, none⟩)) w := by kernel_rfl
theorem nonil_any (w : World) : Calls Try.prog 66 #[.pointer none] w fun e w' => e = .returned (.bool true) ∧ w = w' := by
 go_enter Try.func66, Try.ntmps66
 go_wp2
 go_ret
 exact ⟨rfl, rfl⟩
theorem first_nil (w : World) : Calls Try.prog 38 #[.pointer none] w (GivesQ w []) := by
 go_enter Try.func38, Try.ntmps38
 go_wp2_with fail
 refine (nonil_any _).mono ?_
 rintro e w1 ⟨rfl, rfl⟩
 go_wp2
 go_ret
 exact ⟨none, 0, rfl, OwnR.nil _ _ _ _, Below.refl _ _⟩
theorem gchk_good {G : GR} (h : gchk G = 0) : G.edges.length ≤ 65536 ∧ G.labels.length = G.edges.length ∧ (∀ x ∈ G.init, 0 ≤ x ∧ x < (G.edges.length : Int)) ∧ ∀ l ∈ G.edges, ∀ e ∈ l, 0 ≤ e.1 ∧ e.1 < (G.edges.length : Int) := by
 unfold gchk at h
 by_cases h1 : 65536 < G.edges.length
 ·rw [if_pos h1] at h; cases h
 rw [if_neg h1] at h
 by_cases h2 : G.labels.length ≠ G.edges.length
 ·rw [if_pos h2] at h; cases h
 rw [if_neg h2] at h
 by_cases h3 : G.init.any (outB G.edges.length) = true
 ·rw [if_pos h3] at h; cases h
 rw [if_neg h3] at h
 by_cases h4 : G.edges.any (fun l => l.any fun e => outB G.edges.length e.1) = true
 ·rw [if_pos h4] at h; cases h
 simp [outB] at h2 h3 h4
 refine ⟨by omega, by omega, fun x hx => ?_, fun l hl e he => ?_⟩
 ·have := h3 x hx
  omega
 ·have := h4 l hl e.1 e.2 he
  omega
theorem wf_small {x : Int} (h0 : 0 ≤ x) (h1 : x < 1000000) : (Lit.int .i64 x).wf = true := by
 unfold Lit.wf
 simp [IntKind.min, IntKind.max, IntKind.signed, IntKind.bits]
 omega
def firstTo (G : GR) (A : AU) (ns : List Int) : List PP := ns.foldl (fun out n => pairsP A (labP G n) n 0 out A.init) []
theorem firstTo_snoc (G : GR) (A : AU) (ns : List Int) (n : Int) : firstTo G A (ns ++ [n]) = pairsP A (labP G n) n 0 (firstTo G A ns) A.init := by simp [firstTo]
set_option maxHeartbeats 4000000 in
theorem first_any (w : World) (p : Nat) (G : GR) (sets : List (List Bool)) (A : AU) (h : PrAt w p G sets A) (lt : Lt G sets A) :
  Calls Try.prog 38 #[.pointer (some ⟨p, 0, none⟩)] w (GivesQ w (firstP G A)) := by
 have hP := Lib.hid h
 have N := Lib.hid (pnone_any w p G sets A h)
 obtain ⟨f, ai, an, ci, cn, h⟩ := h
 have hg := gchk_good (src_sets h.src).1
 have hbm := balloc (Below.refl w.heap.size w) (.map #[] 0)
 have hbn : Below w.heap.size w (w.alloc (.map #[] 0)) := hbm
 have F := Lib.hid (ffirst_any _ f G _ _ (h.fx.below hbn) (by have := h.ok.initL; omega))
 have AP := Lib.hid h.au.init
 have hin := Lib.hid (chk_good h.chk).2.2.2.1
 have R := Lib.hid h.row
 have c0 : w.cell? ⟨p, 0, none⟩ = some (.iface TFp (.pointer (some ⟨f, 0, none⟩))) := h.row.cell 0
 have c2 : w.cell? ⟨p, 2, none⟩ = some (.slice ai A.init.length ci) := h.row.cell 2
 have c0m : (w.alloc (.map #[] 0)).cell? ⟨p, 0, none⟩ = some (.iface TFp (.pointer (some ⟨f, 0, none⟩))) := (h.row.below hbn).cell 0
 have QM := Lib.hid (QMap.made w)
 replace hg := Lib.hid hg
 replace hbn := Lib.hid hbn
 replace hbm := Lib.hid hbm
 have hM := meth_First
 have hmm := @run_makeMap Try.prog
 obtain ⟨ni, hni⟩ : ∃ ni, ni = G.init.length := ⟨_, rfl⟩
 have hni12 : ni ≤ 20 := by have := lt.i; omega
 have hai8 := lt.ai
 have hnn8 := lt.n
 have he12 := lt.e
 clear h lt
 go_enter Try.func38, Try.ntmps38
 go_wp2_with fail
 refine N.out.mono ?_
 rintro e w1 ⟨rfl, rfl⟩
 go_wp2_with fail
 refine F.out.mono ?_
 rintro e w2 ⟨a0, k0, rfl, hO, hb2⟩
 rw [← hni] at hO ⊢
 have hbw2 : Below w.heap.size w w2 := btrans hbn.out (hb2)
 have hQ2 : Hid (Acc w2 w.heap.size w.heap.size none 0 []) := ⟨QM.out.keeps (S := fun _ => False) (Keeps.of_below hb2) (fun h => h), OwnR.nil _ _ _ _, Nat.le_refl _, fun j hj => by simp [Value.ownBlock] at hj⟩
 have hN2 : Hid (∀ wr al nl cl, Finds w2 w.heap.size none 0 0 wr al nl cl → NumsAt .i64 wr a0 G.init) := fun wr al nl cl hF => NumsAt.of_owns (hO.keeps hF.1 (fun j hj hh => by
  have h1 := (hO.lt2 hj).1
  have h2 : (w.alloc (.map #[] 0)).heap.size = w.heap.size + 1 := by simp
  rcases hh with h3 | h3
  ·omega
  ·simp [Value.ownBlock] at h3))
 have hlen2 : w.heap.size ≤ w2.heap.size := hbw2.size
 replace hni := Lib.hid hni
 clear F N hO hb2 QM hbn hbm c0 c2 hM hmm c0m
 go_wp2
 go_loopw [3, 16] (fun lv iv wr => ∃ (k : Nat) (l : List PP) (al : Option Addr) (cl : Nat), k ≤ ni ∧ iv = .int .i64 k ∧ lv = .slice al l.length cl ∧ Hid (l = firstTo G A (G.init.take k)) ∧ l.length ≤ k * 20 ∧ Acc wr w.heap.size w.heap.size al cl l ∧ Finds w2 w.heap.size none 0 0 wr al l.length cl) (fun _ iv _ => ni - (intOf iv).toNat)
 case atStart => exact ⟨0, [], none, 0, Nat.zero_le _, rfl, rfl, rfl, Nat.zero_le _, hQ2.out, Finds.refl _ _ _ _ _⟩
 case round =>
  obtain ⟨k, l, al, cl, hk, rfl, rfl, hs, hll, hA, hF⟩ := hrel
  have hbr : Below w.heap.size w wr := hF.1.below hbw2 (fun j hj => by
   rcases hj with rfl | hj
   ·exact Nat.le_refl _
   ·simp [Value.ownBlock] at hj)
  by_cases hlt : k < ni
  ·have hki : k < G.init.length := by have := hni.out; omega
   obtain ⟨bb, off, x, ha0, cx, hxx⟩ := (hN2.out _ _ _ _ hF).at k hki
   have hq2 : x = G.init[k] := by rw [hxx.out, List.getD_eq_getElem?_getD, List.getElem?_eq_getElem hki]; rfl
   have hxr := hg.out.2.2.1 _ (List.getElem_mem hki)
   rw [← hq2] at hxr
   have hst : Hid (firstTo G A (G.init.take (k + 1)) = pairsP A (labP G x) x 0 l A.init) := by
    show _ = _
    rw [List.take_add_one, List.getElem?_eq_getElem hki, Option.toList_some, ← hq2, firstTo_snoc, ← hs.out]
   have hwr : w.heap.size ≤ wr.heap.size := hbr.size
   have C := pairs_any w wr p G sets A hP.out hbr w.heap.size w.heap.size (Nat.le_refl _) hwr al cl l hA ai ci A.init AP.out hin.out x 0 (wf_small hxr.1 (by omega)) (by decide) (by omega)
   have hl2 := pairsP_len A (labP G x) x 0 A.init l
   rw [← hst.out] at C hl2
   obtain ⟨l2, hl2e⟩ : ∃ l2, l2 = firstTo G A (G.init.take (k + 1)) := ⟨_, rfl⟩
   rw [← hl2e] at C hl2
   replace C := Lib.hid C
   replace hl2e := Lib.hid hl2e
   have c2 : wr.cell? ⟨p, 2, none⟩ = some (.slice ai A.init.length ci) := (R.out.below hbr).cell 2
   have hlt2 : (k : Int) < (ni : Int) := by omega
   replace hF := Lib.hid hF
   subst ha0
   clear hst hxr hq2 hxx hs hki
   go_wp2_with fail
   refine C.out.mono ?_
   rintro e w3 ⟨a3, c3, rfl, hA3, hF3⟩
   replace hA3 := Lib.hid hA3
   have hF3 := Lib.hid (hF.out.trans hF3)
   clear C hF c2 cx hA
   go_wp2
   go_roundw
   case rel => exact ⟨k + 1, l2, a3, c3, by omega, by go_num, rfl, hl2e, by omega, hA3.out, hF3.out⟩
   case measure => simp [intOf]; omega
  ·have hke : k = ni := by omega
   subst hke
   rw [hni.out, List.take_length] at hs
   replace hA := Lib.hid hA
   go_wp2
   go_ret
   show GivesQ _ (firstTo G A G.init) _ _
   rw [← hs.out]
   exact ⟨al, cl, rfl, hA.out.own, hbr⟩
end Go.Proofs.Ytfcpfcgcfaacnaa
