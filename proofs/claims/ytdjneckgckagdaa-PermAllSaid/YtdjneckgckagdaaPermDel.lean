/- The library's Delete takes one number out of a row of the call's own, by the guide's contract. Conditions: the place is within. -/
import Derived.Test.YtdjneckgckagdaaPermWalks5
import Derived.Test.YtdjneckgckagdaaPermUnrPlain
import Derived.Ground.Names2Prog
import Derived.Shelf.Slices.Delete
import Derived.Shelf.Slices.Cells
namespace Go.Proofs
open Go.Shelf
def Try.delRen : Go.Shelf.Ren := ⟨fun | 23 => 32 | n => n, fun | 22 => 22 | 3 => 3 | 4 => 4 | 0 => 0 | n => n, fun | n => n⟩
theorem Try.delLays : Go.Proofs.Lays2.n23 Try.prog Try.delRen := {
  mixed := by kernel_rfl
  f23 := Try.func32.trans (congrArg some (by kernel_rfl))
  t0 := Try.underlying0
  a0 := Try.isAgg0
  z0 := Try.sizeOf0
  v0 := Try.zeroValue0
  t3 := Try.underlying3
  a3 := Try.isAgg3
  z3 := Try.sizeOf3
  v3 := Try.zeroValue3
  t4 := Try.underlying4
  a4 := Try.isAgg4
  z4 := Try.sizeOf4
  v4 := Try.zeroValue4
  t22 := Try.underlying22
  a22 := Try.isAgg22
  z22 := Try.sizeOf22
  v22 := Try.zeroValue22
  i3 := by kernel_rfl }
end Go.Proofs
namespace Go.Proofs.Ytdjneckgckagdaa
open Go.RowKit

theorem own_setCells {k : IntKind} {base e g n cap : Nat} : ∀ (ys : List Int) (o : Nat) (w : World) (xs : List Int), OwnN k w base e (some ⟨g, 0, none⟩) n cap xs → o + ys.length ≤ xs.length →
    OwnN k (w.setCells g o (ys.map (Value.int k))) base e (some ⟨g, 0, none⟩) n cap (xs.take o ++ ys ++ xs.drop (o + ys.length))
  | [], o, w, xs, h, _ => by simpa [World.setCells] using h
  | y :: ys, o, w, xs, h, hl => by
    simp only [List.length_cons] at hl
    have h1 := own_set h o y
    have ih := own_setCells ys (o + 1) (w.setCell ⟨g, o, none⟩ (.int k y)) (xs.set o y) h1 (by rw [List.length_set]; omega)
    simp only [List.map_cons, World.setCells]
    have e1 : (xs.set o y).take (o + 1) = xs.take o ++ [y] := by
      rw [List.take_succ_eq_append_getElem (by rw [List.length_set]; omega), List.getElem_set_self, List.take_set_of_le (Nat.le_refl _)]
    have e2 : (xs.set o y).drop (o + 1 + ys.length) = xs.drop (o + (y :: ys).length) := by
      rw [List.drop_set_of_lt (by omega)]
      congr 1
      simp only [List.length_cons]
      omega
    rw [e1, e2] at ih
    simpa [List.append_assoc] using ih
theorem below_setCells {B g : Nat} (hg : B ≤ g) : ∀ (vs : List Value) (o : Nat) {w w' : World}, Below B w w' → Below B w (w'.setCells g o vs)
  | [], _, _, _, h => h
  | v :: vs, o, w, w', h => by
    simp only [World.setCells]
    exact below_setCells hg vs (o + 1) (h.setCell (p := ⟨g, o, none⟩) hg v)
theorem grown_setCells {g : Nat} {w0 : World} : ∀ (vs : List Value) (o : Nat) {w : World}, w0.grownBy w (some g) → w0.grownBy (w.setCells g o vs) (some g)
  | [], _, _, h => h
  | v :: vs, o, w, h => by
    simp only [World.setCells]
    refine grown_setCells vs (o + 1) ⟨h.os, h.tape, h.output, by simpa using h.size, fun k hk hne => ?_⟩
    rw [Below.heap_setCell _ _ _ _ (by simpa using hne)]
    exact h.block k hk hne
theorem own_shrink {k : IntKind} {w : World} {base e g n cap m : Nat} {xs : List Int} (h : OwnN k w base e (some ⟨g, 0, none⟩) n cap xs) (hm : m ≤ n) : OwnN k w base e (some ⟨g, 0, none⟩) m cap (xs.take m) := by
  have hl := owns_len h
  unfold OwnN at h ⊢
  refine ⟨by simp; omega, .inr ?_⟩
  rcases h.2 with ⟨hv, _⟩ | ⟨g', cap', cur, hv, hb, hh, h1, h2, h3, h4⟩
  · simp at hv
  · simp at hv
    obtain ⟨rfl, rfl⟩ := hv
    refine ⟨g, cap, cur, rfl, hb, hh, by omega, h2, h3, ?_⟩
    rw [Nat.mul_one] at h4 ⊢
    rw [List.map_take, ← h4, List.take_take, Nat.min_eq_left hm]
theorem own_cell {k : IntKind} {w : World} {base e g n cap : Nat} {xs : List Int} (h : OwnN k w base e (some ⟨g, 0, none⟩) n cap xs) (j : Nat) (hj : j < xs.length) : w.cell? ⟨g, j, none⟩ = some (.int k (xs.getD j 0)) := by
  obtain ⟨y, h1, h2⟩ := own_at h j hj
  rw [h1, h2.out]

theorem del_any (w : World) (base g n cap c : Nat) (xs : List Int) (h : OwnN .i64 w base 3 (some ⟨g, 0, none⟩) n cap xs) (hc : c < n) (i j : Int) (hi : i = (c : Int)) (hj : j = (c : Int) + 1) :
    Calls Try.prog 32 #[.slice (some ⟨g, 0, none⟩) n cap, .int .i64 i, .int .i64 j] w fun e w' => e = .returned (.slice (some ⟨g, 0, none⟩) (n - 1) cap) ∧
      OwnN .i64 w' base 3 (some ⟨g, 0, none⟩) (n - 1) cap (xs.eraseIdx c) ∧ w.grownBy w' (some g) := by
  have hl := owns_len h
  subst hi
  obtain rfl : j = ((c + 1 : Nat) : Int) := by omega
  refine (Go.Proofs.Any.slices_Delete_int_cells Try.delLays g 0 n cap c (c + 1) xs w (by omega) h.caps.1 (by have := h.caps.2; unfold maxLen at this; omega) (by omega) (by omega)
    (fun j hj => by rw [Nat.zero_add]; exact own_cell h j hj) (fun j hj => by rw [Nat.zero_add]; exact h.free j)).mono ?_
  rintro e w' ⟨rfl, q, rfl⟩
  obtain ⟨ys, hys⟩ : ∃ ys, ys = (xs.take n).take c ++ (xs.take n).drop (c + 1) ++ List.replicate (c + 1 - c) (0 : Int) := ⟨_, rfl⟩
  rw [← hys]
  have hlen : ys.length = n := by
    rw [hys]
    simp only [List.length_append, List.length_take, List.length_drop, List.length_replicate]
    omega
  have h0 : OwnN .i64 (w.drewN q) base 3 (some ⟨g, 0, none⟩) n cap xs := h
  have h1 := own_setCells ys 0 (w.drewN q) xs h0 (by rw [Nat.zero_add, hlen]; omega)
  rw [hlen] at h1
  simp only [List.take_zero, List.nil_append, Nat.zero_add] at h1
  rw [List.drop_of_length_le (by omega), List.append_nil] at h1
  have h2 := own_shrink h1 (m := n - 1) (by omega)
  refine ⟨by rw [show n - (c + 1 - c) = n - 1 by omega], ?_, grown_setCells _ 0 ⟨rfl, rfl, rfl, Nat.le_refl _, fun _ _ _ => rfl⟩⟩
  have e1 : ys.take (n - 1) = xs.eraseIdx c := by
    rw [hys, List.take_of_length_le (l := xs) (by omega), List.eraseIdx_eq_take_drop_succ, List.take_append_of_le_length (by simp only [List.length_append, List.length_take, List.length_drop]; omega), List.take_of_length_le (by simp only [List.length_append, List.length_take, List.length_drop]; omega)]
  rw [e1] at h2
  exact h2
end Go.Proofs.Ytdjneckgckagdaa
