/- Whether a pair is of the set whose turn it is. Conditions: a pair that is one, and sets. -/
import Derived.Test.YtmlbjfaofppikaaPrObj
import Derived.IntWalk
namespace Go.Proofs.Ytmlbjfaofppikaa
open Go.RowKit

theorem bit_test {n s : Nat} (h : n < 18446744073709551616) : (bits .and .u64 ((n : Int) / 2 ^ s) 1 == 1) = n.testBit s := by
  have h1 : n / 2 ^ s < 18446744073709551616 := Nat.lt_of_le_of_lt (Nat.div_le_self _ _) h
  have h2 := bits_and_u64_nat (n / 2 ^ s) 1 h1 (by decide)
  rw [show ((1 : Nat) : Int) = 1 from rfl, Nat.and_one_is_mod, show ((n / 2 ^ s : Nat) : Int) = (n : Int) / 2 ^ s by push_cast; rfl] at h2
  rw [h2, Nat.testBit_eq_decide_div_mod_eq]
  rcases Nat.mod_two_eq_zero_or_one (n / 2 ^ s) with h | h <;> rw [h] <;> rfl
theorem bitsN_lt (sets : List (List Bool)) (i : Nat) : ∀ k, bitsN sets i k < 2 ^ k
  | 0 => by simp [bitsN]
  | k + 1 => by
    have ih := bitsN_lt sets i k
    simp only [bitsN]
    split
    · exact Nat.or_lt_two_pow (Nat.lt_of_lt_of_le ih (Nat.pow_le_pow_right (by omega) (by omega))) (Nat.pow_lt_pow_right (by omega) (by omega))
    · exact Nat.lt_of_lt_of_le ih (Nat.pow_le_pow_right (by omega) (by omega))
theorem inbits_lt {n : Nat} {sets : List (List Bool)} (hs : sets.length ≤ 16) (i : Nat) : (inbits n sets).getD i 0 < 65536 := by
  unfold inbits
  rw [List.getD_eq_getElem?_getD, List.getElem?_map]
  by_cases hi : i < n
  · rw [List.getElem?_range hi]
    exact Nat.lt_of_lt_of_le (bitsN_lt _ _ _) (Nat.le_trans (Nat.pow_le_pow_right (by omega) hs) (by decide))
  · rw [List.getElem?_eq_none (by simp; omega)]
    simp
theorem inbP_lt {G : GR} {sets : List (List Bool)} (hs : sets.length ≤ 16) (x : Int) : inbP G sets x < 65536 := by
  unfold inbP
  split
  · exact inbits_lt hs _
  · omega
set_option maxHeartbeats 2000000 in
theorem pof_any (w : World) (p : Nat) (G : GR) (sets : List (List Bool)) (A : AU) (h : PrAt w p G sets A) (x : PP) (k t : Nat) (hk : k < A.nodes.length) (hxs : x.state = k) (hxt : x.turn = t) (ht : t < allS sets A) :
    Calls Try.prog 37 #[.pointer (some ⟨p, 0, none⟩), ppv x] w fun e w' => e = .returned (.bool (ofP G sets A x)) ∧ Below w.heap.size w w' := by
  obtain ⟨f, ai, an, ci, cn, h⟩ := h
  obtain ⟨s0, s16, _⟩ := chk_sets h.chk
  obtain ⟨_, t16, _⟩ := src_sets h.src
  obtain ⟨S, hS⟩ := Int.eq_ofNat_of_zero_le s0
  obtain ⟨xn, xs, xt⟩ := x
  simp only at hxs hxt
  subst hxs hxt
  obtain ⟨w1, hw1⟩ : ∃ w1, w.alloc (.cells #[.int .i64 xn, .int .i64 k, .int .i64 t] TPP) = w1 := ⟨_, rfl⟩
  have hb1 : Below w.heap.size w w1 := by rw [← hw1]; exact balloc (Below.refl _ _) _
  have hx : RowAt w1 w.heap.size TPP [.int .i64 xn, .int .i64 k, .int .i64 t] := by rw [← hw1]; exact RowAt.new #[.int .i64 xn, .int .i64 k, .int .i64 t] rfl
  have x0 : w1.cell? ⟨w.heap.size, 0, none⟩ = some (.int .i64 xn) := hx.cell 0
  have x1 : w1.cell? ⟨w.heap.size, 1, none⟩ = some (.int .i64 k) := hx.cell 1
  have x2 : w1.cell? ⟨w.heap.size, 2, none⟩ = some (.int .i64 t) := hx.cell 2
  have hr := h.row.below hb1
  have c0 : w1.cell? ⟨p, 0, none⟩ = some (.iface TFp (.pointer (some ⟨f, 0, none⟩))) := hr.cell 0
  have c1 : w1.cell? ⟨p, 1, none⟩ = some (.int .i64 A.sets) := hr.cell 1
  rw [hS] at c1
  have hall : allS sets A = S + sets.length := by unfold allS; rw [hS]; rfl
  rw [hall] at ht
  have c3 : w1.cell? ⟨p, 3, none⟩ = some (.slice an A.nodes.length cn) := hr.cell 3
  by_cases hlt : t < S
  · have hres : ofP G sets A ⟨xn, k, t⟩ = (nodeP A k).inn.testBit t := by
      unfold ofP
      rw [if_pos (by show (t : Int) < A.sets; rw [hS]; simp; omega)]
      simp [bitB]
    rw [hres, nodeP_at hk]
    have hd : decide (t < S) = true := by simpa using hlt
    obtain ⟨b, off, rfl, n0, n1, n2, _⟩ := (h.au.nodes.below hb1).at k hk
    have u2 := (h.aok.nodes _ (List.getElem_mem hk)).2.2.1
    generalize A.nodes[k] = nd at n0 n1 n2 u2 ⊢
    have q := bit_test (s := t) u2
    generalize nd.inn.testBit t = r at q
    generalize nd.inn = u at n2 q u2
    have hk2 : (k : Int) < (A.nodes.length : Int) := by omega
    have ht40 : (t : Int) ≤ 40 := by omega
    clear h hr hx hres hS s0 s16 t16 hall ht hlt c0
    go_enter Try.func37, Try.ntmps37
    go_wp2
    go_quiet (fail)
    go_wp2
    go_quiet (fail)
    go_wp2
    go_ret
    exact ⟨rfl, bdrewN (bdrewN hb1 _) _⟩
  · obtain ⟨s, hs⟩ : ∃ s, t = S + s := ⟨t - S, by omega⟩
    have hres : ofP G sets A ⟨xn, k, t⟩ = (inbP G sets xn).testBit s := by
      unfold ofP
      rw [if_neg (by show ¬ (t : Int) < A.sets; rw [hS]; simp; omega)]
      show bitB _ _ = _
      unfold bitB
      congr 1
      show ((t : Int) - A.sets).toNat = s
      rw [hS]
      omega
    rw [hres]
    have hd : decide (t < S) = false := by simpa using hlt
    have q := bit_test (s := s) (Nat.lt_trans (inbP_lt (G := G) t16 xn) (by decide))
    have I := Lib.hid (fun wr (hb : Below w.heap.size w wr) => fin_any wr f G _ _ (h.fx.below hb) xn)
    have I2 : Hid (∀ m, Calls Try.prog 79 #[.pointer (some ⟨f, 0, none⟩), .int .i64 xn] (w1.drewN m) fun e w' => e = .returned (.int .u64 (inbP G sets xn : Int)) ∧ w1.drewN m = w') := fun m => I.out _ (bdrewN hb1 m)
    generalize (inbP G sets xn).testBit s = r at q
    have hw : IntKind.i64.wrap ((t : Int) - (S : Int)) = (s : Int) := by rw [show (t : Int) - (S : Int) = (s : Int) by omega]; exact IntWalk.i64_in _ (by omega)
    have hs40 : (s : Int) ≤ 40 := by omega
    obtain ⟨u, hu⟩ : ∃ u, u = inbP G sets xn := ⟨_, rfl⟩
    rw [← hu] at q I2
    replace hu := Lib.hid hu
    clear h hr hx hres hS s0 s16 t16 hall ht hlt hs I c3
    go_enter Try.func37, Try.ntmps37
    go_wp2
    go_quiet (fail)
    go_wp2
    obtain ⟨w2, hw2⟩ : ∃ w2, w1.drewN nq = w2 := ⟨_, rfl⟩
    have J2 : Hid (∀ m, Calls Try.prog 79 #[.pointer (some ⟨f, 0, none⟩), .int .i64 xn] (w2.drewN m) fun e w' => e = .returned (.int .u64 (u : Int)) ∧ w2.drewN m = w') := fun m => by
      have := I2.out (nq + m)
      rwa [← World.drewN_drewN, hw2] at this
    have hb2 : Below w.heap.size w w2 := by rw [← hw2]; exact bdrewN hb1 nq
    have d0 : w2.cell? ⟨p, 0, none⟩ = some (.iface TFp (.pointer (some ⟨f, 0, none⟩))) := by rw [← hw2]; exact c0
    have d1 : w2.cell? ⟨p, 1, none⟩ = some (.int .i64 S) := by rw [← hw2]; exact c1
    have y0 : w2.cell? ⟨w.heap.size, 0, none⟩ = some (.int .i64 xn) := by rw [← hw2]; exact x0
    have y2 : w2.cell? ⟨w.heap.size, 2, none⟩ = some (.int .i64 t) := by rw [← hw2]; exact x2
    rw [hw2]
    clear hw2 I2 c0 c1 x0 x1 x2 hb1 hw1
    have hM : ∀ (r : TypeId) (f : Nat) (w : World), Sem.run Try.prog (method (r + 1) TFp (.pointer (some ⟨f, 0, none⟩)) "In") w = Result.ok (79, .pointer (some ⟨f, 0, none⟩)) w := by
      intro r f w
      kernel_rfl
    go_quiet ((go_at_call 79; exact Calls.quiet_of_same ((J2.out _).mono fun _ _ h => ⟨h.1, h.2.symm⟩)))
    go_wp2
    go_ret
    exact ⟨rfl, bdrewN hb2 _⟩
end Go.Proofs.Ytmlbjfaofppikaa
