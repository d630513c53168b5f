/- A reader's List. Conditions: bytes. -/
import Derived.Test.YtpnkfhfaoomdpaaOctetRead3
import Derived.Test.YtpnkfhfaoomdpaaEqNums
namespace Go.Proofs.Ytpnkfhfaoomdpaa
open Go.RowKit

namespace Octet
/-- so many numbers, one behind the other -/
def rTake (bs : List Int) : Nat → Nat × Int × List Int → Nat × Int × List Int
  | 0, s => s
  | n + 1, s => rTake bs n ((rNum bs s.1 s.2.1).1, (rNum bs s.1 s.2.1).2.1, s.2.2 ++ [(rNum bs s.1 s.2.1).2.2])
/-- what List makes of a reader -/
def rList (bs : List Int) (p : Nat) (e : Int) : Nat × Int × List Int :=
  if e ≠ 0 then (p, e, [])
  else if (rTake bs (rMany bs p p).2.2.toNat ((rMany bs p p).1, (rMany bs p p).2.1, [])).2.1 ≠ 0 then (p, (rTake bs (rMany bs p p).2.2.toNat ((rMany bs p p).1, (rMany bs p p).2.1, [])).2.1, [])
  else rTake bs (rMany bs p p).2.2.toNat ((rMany bs p p).1, (rMany bs p p).2.1, [])
theorem rMany_pos (bs : List Int) (p from_ : Nat) : 0 ≤ (rMany bs p from_).2.2 ∧ (rMany bs p from_).2.2 ≤ bs.length := by
  unfold rMany
  by_cases h1 : (rNum bs p 0).2.1 ≠ 0
  · rw [if_pos h1]; simp
  · rw [if_neg h1]
    by_cases h2 : (rNum bs p 0).2.2 < 0
    · rw [if_pos h2]; simp
    · rw [if_neg h2]
      by_cases h3 : (bs.length : Int) - ((rNum bs p 0).1 : Int) < (rNum bs p 0).2.2
      · rw [if_pos h3]; simp
      · rw [if_neg h3]
        omega
theorem rTake_snoc (bs : List Int) : ∀ (n : Nat) (s : Nat × Int × List Int), rTake bs (n + 1) s = ((rNum bs (rTake bs n s).1 (rTake bs n s).2.1).1, (rNum bs (rTake bs n s).1 (rTake bs n s).2.1).2.1, (rTake bs n s).2.2 ++ [(rNum bs (rTake bs n s).1 (rTake bs n s).2.1).2.2])
  | 0, s => rfl
  | n + 1, s => by
    show rTake bs (n + 1) _ = _
    rw [rTake_snoc bs n]
    rfl
end Octet

theorem grown_over {w wr w' : World} {g : Nat} {row : Option Nat} (h : w.grownBy wr (some g)) (hg : wr.grownBy w' row) (hr : ∀ k, row = some k → w.heap.size ≤ k) : w.grownBy w' (some g) where
  os := hg.os.trans h.os
  tape := hg.tape.trans h.tape
  output := hg.output.trans h.output
  size := Nat.le_trans h.size hg.size
  block := fun k hk hne => by
    rw [hg.block k (Nat.lt_of_lt_of_le hk h.size) (fun e => by have := hr k e.symm; omega)]
    exact h.block k hk hne
theorem grown_both {w wr w' : World} {g : Nat} (h : w.grownBy wr (some g)) (hg : wr.grownBy w' (some g)) : w.grownBy w' (some g) where
  os := hg.os.trans h.os
  tape := hg.tape.trans h.tape
  output := hg.output.trans h.output
  size := Nat.le_trans h.size hg.size
  block := fun k hk hne => by
    rw [hg.block k (Nat.lt_of_lt_of_le hk h.size) hne]
    exact h.block k hk hne
theorem grown_alloc (w : World) (o : Obj) : w.grownBy (w.alloc o) none := ⟨rfl, rfl, rfl, by simp, fun k hk _ => Below.heap_alloc w o k hk⟩
/-- a reader stays where only what is new is written -/
theorem RD.keep {w w' : World} {g base : Nat} {a : Option Addr} {cap : Nat} {bs : List Int} {p : Nat} {e : Int} (h : RD w g a cap bs p e) (hg : g < base) (ha : 0 < bs.length → ∀ ad : Addr, a = some ad → ad.block < base) (hk : ∀ j, j < base → w'.heap[j]? = w.heap[j]?) : RD w' g a cap bs p e :=
  ⟨(hk g hg).trans h.rdr, fun h0 => h.nums.keep (fun ad had _ => hk _ (ha h0 ad had)) h0, h.ne, h.hp, h.hc, h.hb, h.hx⟩
end Go.Proofs.Ytpnkfhfaoomdpaa
