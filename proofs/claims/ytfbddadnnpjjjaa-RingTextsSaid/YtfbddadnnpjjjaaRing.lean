/- A queue of numbers in memory; New, full, Len. No conditions. -/
import Derived.Test.YtfbddadnnpjjjaaMem
namespace Go.Proofs.Ytfbddadnnpjjjaa
open Go.RowKit

abbrev TQI : Nat := 44
def mostP (m : Int) : Int := min (max m 0) 65536
/-- a queue that New made: its struct in a block of its own, its numbers in a row of the call's own -/
structure QAt (w : World) (B q : Nat) (m : Int) (a : Option Addr) (c : Nat) (xs : List Int) : Prop where
  box : RowAt w q TQI [.bool true, .int .i64 m, .slice a xs.length c]
  own : OwnN .i64 w B 3 a xs.length c xs
  ne : (Value.slice a xs.length c).ownBlock ≠ some q
  hq : B ≤ q
theorem QAt.below {w w' : World} {B q : Nat} {m : Int} {a : Option Addr} {c : Nat} {xs : List Int} (h : QAt w B q m a c xs) (hb : Below w.heap.size w w') : QAt w' B q m a c xs :=
  ⟨h.box.below hb, h.own.keeps (S := fun _ => False) (Keeps.of_below hb) (fun _ _ h => h), h.ne, h.hq⟩
theorem new_any (w : World) (m : Int) :
    Calls Try.prog 9 #[.int .i64 m] w fun e w' => e = .returned (.pointer (some ⟨w.heap.size, 0, none⟩)) ∧ QAt w' w.heap.size w.heap.size (mostP m) none 0 [] ∧ Below w.heap.size w w' := by
  have hr : Hid (∀ r, mostP m = r → QAt (w.alloc (.cells #[.bool true, .int .i64 r, .slice none 0 0] TQI)) w.heap.size w.heap.size (mostP m) none 0 []) := fun r hr => by
    rw [hr]
    exact ⟨RowAt.new #[.bool true, .int .i64 r, .slice none 0 0] rfl, OwnN.nil _ _ _ _, by simp [Value.ownBlock], Nat.le_refl _⟩
  go_enter Try.func9, Try.ntmps9
  go_wp2
  all_goals
    go_ret
    exact ⟨rfl, hr.out _ (by unfold mostP; omega), balloc (Below.refl _ _) _⟩
theorem len_any (w : World) (B q : Nat) (m : Int) (a : Option Addr) (c : Nat) (xs : List Int) (h : QAt w B q m a c xs) :
    Calls Try.prog 19 #[.pointer (some ⟨q, 0, none⟩)] w fun e w' => e = .returned (.int .i64 xs.length) ∧ w = w' := by
  have c2 : w.cell? ⟨q, 2, none⟩ = some (.slice a xs.length c) := h.box.cell 2
  clear h
  go_enter Try.func19, Try.ntmps19
  go_wp2
  go_ret
  exact ⟨rfl, rfl⟩
theorem full_any (w : World) (B q : Nat) (m : Int) (a : Option Addr) (c : Nat) (xs : List Int) (h : QAt w B q m a c xs) :
    Calls Try.prog 29 #[.pointer (some ⟨q, 0, none⟩)] w fun e w' => e = .returned (.bool (decide (m ≤ (xs.length : Int)))) ∧ Quiet w w' := by
  have c0 : w.cell? ⟨q, 0, none⟩ = some (.bool true) := h.box.cell 0
  have c1 : w.cell? ⟨q, 1, none⟩ = some (.int .i64 m) := h.box.cell 1
  have c2 : w.cell? ⟨q, 2, none⟩ = some (.slice a xs.length c) := h.box.cell 2
  clear h
  go_enter Try.func29, Try.ntmps29
  go_wp2
  go_quiet (fail)
  go_wp2
  go_ret
  exact ⟨rfl, Quiet.one _ _⟩
end Go.Proofs.Ytfbddadnnpjjjaa
