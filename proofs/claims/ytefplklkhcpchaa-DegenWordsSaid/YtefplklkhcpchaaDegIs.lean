/- Is a pair's node of a set. Conditions: the set's number is small. -/
import Derived.Test.YtefplklkhcpchaaDegRow
import Derived.Laws.BitsLemmas
import Derived.Laws.Bits64
import Derived.Laws.Bits64b
namespace Go.Proofs.Ytefplklkhcpchaa
open Go.RowKit

theorem bit_test {n s : Nat} (h : n < 18446744073709551616) : (bits .and .u64 ((n : Int) / 2 ^ s) 1 == 1) = bitN n (s : Int) := by
  have h1 : n / 2 ^ s < 18446744073709551616 := Nat.lt_of_le_of_lt (Nat.div_le_self _ _) h
  have h2 := bits_and_u64_nat (n / 2 ^ s) 1 h1 (by decide)
  rw [show ((1 : Nat) : Int) = 1 from rfl, Nat.and_one_is_mod, show ((n / 2 ^ s : Nat) : Int) = (n : Int) / 2 ^ s by push_cast; rfl] at h2
  rw [h2]
  unfold bitN
  rw [Int.toNat_natCast]
  rcases Nat.mod_two_eq_zero_or_one (n / 2 ^ s) with h | h <;> rw [h] <;> rfl

set_option maxHeartbeats 1000000 in
theorem is_any (w : World) (M mb : Nat) (pa : Option Addr) (pc np : Nat) (s : Int) (ai : Option Addr) (ni ci : Nat) (an : Option Addr) (cn : Nat) (nodes : List AN)
    (hr : RowAt w M TM [.int .i64 s, .slice ai ni ci, .slice an nodes.length cn, .map (some mb), .slice pa np pc]) (hn : NodesAt w an nodes) (i : Nat) (hi : i < nodes.length) (_hl : nodes.length ≤ 256) (hin : nodes[i].inn < 18446744073709551616) (t : Int) (u : Nat) (hu : u ≤ 16) :
    Calls Try.prog 31 #[.pointer (some ⟨M, 0, none⟩), .agg #[.int .i64 i, .int .i64 t], .int .i64 u] w fun e w' => e = .returned (.bool (bitN nodes[i].inn (u : Int))) ∧ Below w.heap.size w w' := by
  have hb := bit_test (s := u) hin
  generalize bitN nodes[i].inn (u : Int) = r at hb
  obtain ⟨b, off, rfl, q0, q1, q2, _⟩ := hn.at i hi
  generalize nodes[i].inn = x at q2 hin hb
  have hbl := World.block_lt_of_cell? w _ q0
  simp only at hbl
  have m2 : w.cell? ⟨M, 2, none⟩ = some (.slice (some ⟨b, off, none⟩) nodes.length cn) := hr.cell 2
  have hMl := hr.lt
  have hi2 : (i : Int) < (nodes.length : Int) := by omega
  clear hr hn q0 q1
  go_enter Try.func31, Try.ntmps31
  go_wp2
  go_quiet (fail)
  go_wp2
  go_ret
  exact ⟨rfl, bdrewN (balloc (Below.refl _ _) _) _⟩
end Go.Proofs.Ytefplklkhcpchaa
