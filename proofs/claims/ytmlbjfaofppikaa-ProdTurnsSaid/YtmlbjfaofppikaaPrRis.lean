/- The document's is: whether a pair is of a set. Conditions: a product that the document's New tells. -/
import Derived.Test.YtmlbjfaofppikaaPrRight
namespace Go.Proofs.Ytmlbjfaofppikaa
open Go.RowKit

theorem bitsN_bit (sets : List (List Bool)) (i : Nat) : ∀ k j, (bitsN sets i k).testBit j = (decide (j < k) && (sets.getD j []).getD i false)
  | 0, j => by simp [bitsN]
  | k + 1, j => by
    have ih := bitsN_bit sets i k j
    simp only [bitsN]
    by_cases hjk : j = k
    · subst hjk
      rw [decide_eq_true (by omega), Bool.true_and]
      have hz : (bitsN sets i j).testBit j = false := by rw [ih]; simp
      split
      · rename_i h
        rw [Nat.testBit_or, hz, Nat.testBit_two_pow_self, h]; rfl
      · rename_i h
        rw [hz]
        exact (Bool.eq_false_iff.2 h).symm
    · have e : (if (sets.getD k []).getD i false = true then bitsN sets i k ||| 2 ^ k else bitsN sets i k).testBit j = (bitsN sets i k).testBit j := by
        split
        · rw [Nat.testBit_or, Nat.testBit_two_pow_of_ne (fun h => hjk h.symm), Bool.or_false]
        · rfl
      rw [e, ih]
      congr 1
      simp
      omega
theorem ofP_set {G : GR} {sets : List (List Bool)} {A : AU} {n st : Int} {S s : Nat} (hS : A.sets = S) (hs : s < sets.length) :
    ofP G sets A ⟨n, st, ((S + s : Nat) : Int)⟩ = (inG G.edges.length n && (sets.getD s []).getD n.toNat false) := by
  unfold ofP
  rw [if_neg (by show ¬ ((S + s : Nat) : Int) < A.sets; rw [hS]; push_cast; omega)]
  show bitB (inbP G sets n) _ = _
  rw [show (((S + s : Nat) : Int) - A.sets).toNat = s by rw [hS]; push_cast; omega]
  unfold bitB inbP
  cases hi : inG G.edges.length n with
  | false => simp
  | true =>
    have hi2 := hi
    unfold inG at hi2
    simp at hi2
    have hn : n.toNat < G.edges.length := by omega
    rw [if_pos rfl, Bool.true_and]
    unfold inbits
    rw [List.getD_eq_getElem?_getD, List.getElem?_map, List.getElem?_range hn]
    show (bitsN sets n.toNat sets.length).testBit s = _
    rw [bitsN_bit, decide_eq_true hs, Bool.true_and]
set_option maxHeartbeats 2000000 in
theorem ris_any (w : World) (X : RX) (G : GR) (sets : List (List Bool)) (A : AU) (h : RpA w X G sets A) (x : PP) (k s : Nat) (hk : k < A.nodes.length) (hxs : x.state = k) (hs : s < allS sets A) :
    Calls Try.prog 44 #[rpv X G sets A, ppv x, .int .i64 s] w fun e w' => e = .returned (.bool (ofP G sets A ⟨x.node, x.state, s⟩)) ∧ Below w.heap.size w w' := by
  obtain ⟨s0, s16, _⟩ := chk_sets h.chk
  obtain ⟨_, t16, hrow⟩ := src_sets h.src
  obtain ⟨S, hS⟩ := Int.eq_ofNat_of_zero_le s0
  have hall : allS sets A = S + sets.length := by unfold allS; rw [hS]; rfl
  rw [hall] at hs
  have r1 := RowAt.new (w := w) (T := TRP) #[.slice X.ai G.init.length X.ci, .slice X.ae G.edges.length X.ce, .slice X.al G.labels.length X.cl, .slice X.as_ sets.length X.cs, .int .i64 A.sets, .slice X.bi A.init.length X.di, .slice X.bn A.nodes.length X.dn] rfl
  have r2 := RowAt.new (w := w.alloc (.cells #[.slice X.ai G.init.length X.ci, .slice X.ae G.edges.length X.ce, .slice X.al G.labels.length X.cl, .slice X.as_ sets.length X.cs, .int .i64 A.sets, .slice X.bi A.init.length X.di, .slice X.bn A.nodes.length X.dn] TRP)) (T := TRq) #[.int .i64 x.node, .int .i64 x.state, .int .i64 x.turn] rfl
  have r1' := r1.alloc (.cells #[.int .i64 x.node, .int .i64 x.state, .int .i64 x.turn] TRq)
  have hb2 := balloc (balloc (Below.refl w.heap.size w) (.cells #[.slice X.ai G.init.length X.ci, .slice X.ae G.edges.length X.ce, .slice X.al G.labels.length X.cl, .slice X.as_ sets.length X.cs, .int .i64 A.sets, .slice X.bi A.init.length X.di, .slice X.bn A.nodes.length X.dn] TRP)) (.cells #[.int .i64 x.node, .int .i64 x.state, .int .i64 x.turn] TRq)
  have hz1 : (w.alloc (.cells #[.slice X.ai G.init.length X.ci, .slice X.ae G.edges.length X.ce, .slice X.al G.labels.length X.cl, .slice X.as_ sets.length X.cs, .int .i64 A.sets, .slice X.bi A.init.length X.di, .slice X.bn A.nodes.length X.dn] TRP)).heap.size = w.heap.size + 1 := by simp
  rw [hz1] at r2
  obtain ⟨xn, xs, xt⟩ := x
  simp only at hxs r1' r2 hb2
  subst hxs
  obtain ⟨w2, hw2⟩ : ∃ w2, (w.alloc (.cells #[.slice X.ai G.init.length X.ci, .slice X.ae G.edges.length X.ce, .slice X.al G.labels.length X.cl, .slice X.as_ sets.length X.cs, .int .i64 A.sets, .slice X.bi A.init.length X.di, .slice X.bn A.nodes.length X.dn] TRP)).alloc (.cells #[.int .i64 xn, .int .i64 k, .int .i64 xt] TRq) = w2 := ⟨_, rfl⟩
  rw [hw2] at r1' r2 hb2
  have c1 : w2.cell? ⟨w.heap.size, 1, none⟩ = some (.slice X.ae G.edges.length X.ce) := r1'.cell 1
  have c3 : w2.cell? ⟨w.heap.size, 3, none⟩ = some (.slice X.as_ sets.length X.cs) := r1'.cell 3
  have c4 : w2.cell? ⟨w.heap.size, 4, none⟩ = some (.int .i64 A.sets) := r1'.cell 4
  rw [hS] at c4
  have c6 : w2.cell? ⟨w.heap.size, 6, none⟩ = some (.slice X.bn A.nodes.length X.dn) := r1'.cell 6
  have x0 : w2.cell? ⟨w.heap.size + 1, 0, none⟩ = some (.int .i64 xn) := r2.cell 0
  have x1 : w2.cell? ⟨w.heap.size + 1, 1, none⟩ = some (.int .i64 k) := r2.cell 1
  have hs40 : (s : Int) ≤ 40 := by omega
  have hk2 : (k : Int) < (A.nodes.length : Int) := by omega
  by_cases hlt : s < S
  · have hres : ofP G sets A ⟨xn, k, s⟩ = (nodeP A k).inn.testBit s := by
      unfold ofP
      rw [if_pos (by show (s : Int) < A.sets; rw [hS]; simp; omega)]
      simp [bitB]
    rw [hres, nodeP_at hk]
    have hd : decide (s < S) = true := by simpa using hlt
    obtain ⟨b, off, ha, n0, n1, n2, _⟩ := (h.au.nodes.below hb2).at k hk
    have u2 := (h.aok.nodes _ (List.getElem_mem hk)).2.2.1
    generalize A.nodes[k] = nd at n0 n1 n2 u2 ⊢
    have q := bit_test (s := s) u2
    generalize nd.inn.testBit s = r at q
    generalize nd.inn = u at n2 q u2
    have hk3 : (k : Int) < (A.nodes.length : Int) := hk2
    replace hS := Lib.hid hS
    clear h hall hres s0 s16 t16 hrow r1 r1' r2 hz1 hlt hs c1 c3 x0
    obtain ⟨ai, ae, al, as_, bi, bn, ci, ce, cl, cs, di, dn⟩ := X
    dsimp only at ha hw2 c4 c6 ⊢
    subst ha
    go_enter Try.func44, Try.ntmps44
    go_wp2
    clear hw2
    go_wp2
    go_ret
    exact ⟨rfl, hb2⟩
  · obtain ⟨j, rfl⟩ : ∃ j, s = S + j := ⟨s - S, by omega⟩
    have hj : j < sets.length := by omega
    have hres := ofP_set (G := G) (n := xn) (st := (k : Int)) hS hj
    rw [hres]
    have hd : decide (S + j < S) = false := by simp
    have hwr : IntKind.i64.wrap (((S + j : Nat) : Int) - (S : Int)) = (j : Int) := by rw [show ((S + j : Nat) : Int) - (S : Int) = (j : Int) by push_cast; omega]; exact IntWalk.i64_in _ (by omega)
    obtain ⟨t, ht⟩ : ∃ t, t = S + j := ⟨_, rfl⟩
    rw [← ht] at hd hwr hs40 ⊢
    have hl : (sets.getD j []).length = G.edges.length := by
      rw [List.getD_eq_getElem?_getD, List.getElem?_eq_getElem hj]
      exact hrow _ (List.getElem_mem hj)
    obtain ⟨bs, os, a2, c2, has, _, cr, hrw⟩ := (h.s.below hb2).at j hj
    have hrow2 : (sets.getD j []) = sets[j] := by rw [List.getD_eq_getElem?_getD, List.getElem?_eq_getElem hj]; rfl
    rw [hrow2] at hl ⊢
    generalize sets[j] = row at cr hrw hl ⊢
    have hj2 : (j : Int) < (sets.length : Int) := by omega
    replace hS := Lib.hid hS
    replace ht := Lib.hid ht
    have hlen : Hid (row.length = G.edges.length) := hl
    clear h hall hres s0 s16 t16 hrow r1 r1' r2 hz1 hlt hs c6 hrow2 hl
    obtain ⟨ai, ae, al, as_, bi, bn, ci, ce, cl, cs, di, dn⟩ := X
    dsimp only at has hw2 c1 c3 c4 ⊢
    subst has
    by_cases h0 : xn < 0
    · have h0' : decide (0 ≤ xn) = false := by simpa using h0
      rw [inG_no h0, Bool.false_and]
      go_enter Try.func44, Try.ntmps44
      go_wp2
      clear hw2
      go_quiet (fail)
      go_wp2
      go_ret
      exact ⟨rfl, bdrewN hb2 _⟩
    have h0' : decide (0 ≤ xn) = true := by simpa using h0
    rw [inG_yes (show 0 ≤ xn by omega)]
    obtain ⟨i, rfl⟩ := Int.eq_ofNat_of_zero_le (show 0 ≤ xn by omega)
    by_cases h1 : i < G.edges.length
    · have h1' : decide (i < G.edges.length) = true := by simpa using h1
      rw [decide_eq_true (show (i : Int) < (G.edges.length : Int) by omega), Bool.true_and]
      have hil : i < row.length := by rw [hlen.out]; exact h1
      obtain ⟨b3, o3, ha2, _, cv⟩ := hrw.at i hil
      have hv : Hid (row.getD (i : Int).toNat false = row[i]) := by show _ = _; rw [Int.toNat_natCast, List.getD_eq_getElem?_getD, List.getElem?_eq_getElem hil]; rfl
      rw [hv.out]
      generalize row[i] = v at cv
      subst ha2
      have hi2 : (i : Int) < (row.length : Int) := by omega
      go_enter Try.func44, Try.ntmps44
      go_wp2
      clear hw2
      go_quiet (fail)
      go_wp2
      go_ret
      exact ⟨rfl, bdrewN hb2 _⟩
    · have h1' : decide (i < G.edges.length) = false := by simpa using h1
      rw [decide_eq_false (show ¬ (i : Int) < (G.edges.length : Int) by omega), Bool.false_and]
      go_enter Try.func44, Try.ntmps44
      go_wp2
      clear hw2
      go_quiet (fail)
      go_wp2
      go_ret
      exact ⟨rfl, bdrewN hb2 _⟩
end Go.Proofs.Ytmlbjfaofppikaa
