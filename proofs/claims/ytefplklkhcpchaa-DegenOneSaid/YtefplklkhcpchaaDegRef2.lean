/- The document's turn. Conditions: the bounds that an argument brings along. -/
import Derived.Test.YtefplklkhcpchaaDegRef
import Derived.Test.YtefplklkhcpchaaDegOne
namespace Go.Proofs.Ytefplklkhcpchaa
open Go.RowKit

set_option maxHeartbeats 2000000 in
theorem turn_any (w : World) (s : Nat) (ai : Option Addr) (ni ci : Nat) (an : Option Addr) (cn : Nat) (init : List Int) (nodes : List AN) (hn : NodesAt w an nodes) (hin : ∀ x ∈ nodes, x.inn < 18446744073709551616) (hl : nodes.length ≤ 256) (i : Nat) (hi : i < nodes.length) (t : Nat) (hs : s ≤ 16) (ht : t ≤ 16) :
    Calls Try.prog 20 #[.agg #[.int .i64 s, .slice ai ni ci, .slice an nodes.length cn], .agg #[.int .i64 i, .int .i64 t]] w fun e w' => e = .returned (.int .i64 (turnP ⟨(s : Int), init, nodes⟩ ((i : Int), (t : Int)))) ∧ Below w.heap.size w w' := by
  have hget := nodeAt_get (A := ⟨(s : Int), init, nodes⟩) hi
  simp only at hget
  generalize hT : turnP ⟨(s : Int), init, nodes⟩ ((i : Int), (t : Int)) = T
  unfold turnP at hT
  simp only [hget] at hT
  replace hT := Lib.hid hT
  have hx := hin _ (List.getElem_mem hi)
  obtain ⟨b, off, hab, q0, q1, q2, _⟩ := hn.at i hi
  generalize nodes[i] = x at hT hx q0 q1 q2
  obtain ⟨xn, xb, xi, xt⟩ := x
  simp only at hT hx q0 q1 q2
  have hbl := World.block_lt_of_cell? w _ q0
  simp only at hbl
  have hbl1 : b < w.heap.size + 1 := by omega
  have hi2 : (i : Int) < (nodes.length : Int) := by omega
  subst hab
  clear hn hin hget q0 q1
  by_cases hs0 : s = 0
  · have hT2 : Hid (T = (t : Int)) := by have := hT.out; rw [if_neg (by omega)] at this; exact this.symm
    have hd : decide (0 < (s : Int)) = false := by simp; omega
    have hd2 : decide (0 < s) = false := by simp; omega
    clear hs0
    obtain rfl := hT2.out
    clear hT hT2
    go_enter Try.func20, Try.ntmps20
    go_wp2
    go_quiet (fail)
    go_wp2
    go_ret
    exact ⟨rfl, bdrewN (balloc (balloc (Below.refl _ _) _) _) _⟩
  have hs1 : 0 < (s : Int) := by omega
  have hs1n : 0 < s := by omega
  have hs1d : decide (0 < (s : Int)) = true := by simp; omega
  have hbt := bit_test (n := xi) (s := t) hx
  have e64 : IntKind.u64.wrap (t : Int) = (t : Int) := IntWalk.u64_in _ (by omega)
  have hw1 : IntKind.i64.wrap ((t : Int) + 1) = (t : Int) + 1 := IntWalk.i64_in _ (by omega)
  have htm : ((t : Int) + 1).tmod (s : Int) = ((t : Int) + 1) % (s : Int) := Int.tmod_eq_emod_of_nonneg (by omega)
  have hsn : ((s : Int) == 0) = false := by simp; omega
  clear hs0
  cases hb : bitN xi (t : Int) with
  | true =>
    rw [hb] at hbt
    have hT2 : Hid (T = ((t : Int) + 1) % (s : Int)) := by have := hT.out; rw [if_pos ⟨hs1, hb⟩] at this; exact this.symm
    obtain rfl := hT2.out
    clear hT hT2 hb
    go_enter Try.func20, Try.ntmps20
    go_wp2
    go_quiet (fail)
    go_wp2
    go_ret
    exact ⟨rfl, bdrewN (balloc (balloc (Below.refl _ _) _) _) _⟩
  | false =>
    rw [hb] at hbt
    have hT2 : Hid (T = (t : Int)) := by have := hT.out; rw [if_neg (by rw [hb]; simp)] at this; exact this.symm
    obtain rfl := hT2.out
    clear hT hT2 hb
    go_enter Try.func20, Try.ntmps20
    go_wp2
    go_quiet (fail)
    go_wp2
    go_ret
    exact ⟨rfl, bdrewN (balloc (balloc (Below.refl _ _) _) _) _⟩

/-! the state of the document's making -/
abbrev OBlk (a : Option Addr) (n c : Nat) : Option Nat := (Value.slice a n c).ownBlock
/-- what find tells, as a number of the list that then stands -/
theorem find_num {l : List PR} {p : PR} (h : p ∈ l) : (if p ∈ l then (l.idxOf p : Int) else -1) = ((numP l p).2 : Int) ∧ (numP l p).1 = l := by
  unfold numP
  rw [if_pos h, if_pos h]
  exact ⟨rfl, rfl⟩
theorem find_new {l : List PR} {p : PR} (h : p ∉ l) : (if p ∈ l ++ [p] then ((l ++ [p]).idxOf p : Int) else -1) = ((numP l p).2 : Int) ∧ (numP l p).1 = l ++ [p] := by
  unfold numP
  rw [if_neg h, if_pos (by simp), List.idxOf_append, if_neg h]
  simp
end Go.Proofs.Ytefplklkhcpchaa
