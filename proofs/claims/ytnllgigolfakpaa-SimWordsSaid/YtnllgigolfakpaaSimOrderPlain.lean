/- The greatest simulation is an order: plain. No conditions. -/
import Derived.Test.YtnllgigolfakpaaSimPlain
namespace Go.Proofs.Ytnllgigolfakpaa

theorem aloB_refl (s : Nat) (x : AN) : aloB s x x = true := by
  unfold aloB
  simp
theorem and_trans {a b c m : Nat} (h1 : (a &&& b) &&& m = a &&& m) (h2 : (b &&& c) &&& m = b &&& m) : (a &&& c) &&& m = a &&& m := by
  apply Nat.eq_of_testBit_eq
  intro i
  have e1 := congrArg (fun n => n.testBit i) h1
  have e2 := congrArg (fun n => n.testBit i) h2
  simp only [Nat.testBit_and] at e1 e2 ⊢
  generalize a.testBit i = p at e1 e2 ⊢
  generalize b.testBit i = q at e1 e2 ⊢
  generalize c.testBit i = r at e1 e2 ⊢
  generalize m.testBit i = t at e1 e2 ⊢
  revert e1 e2
  cases p <;> cases q <;> cases r <;> cases t <;> simp
theorem and_trans2 {a b c : Nat} (h1 : b &&& a = b) (h2 : c &&& b = c) : c &&& a = c := by
  rw [← h2, Nat.and_assoc, h1]
theorem aloB_trans {s : Nat} {x y z : AN} (h1 : aloB s x y = true) (h2 : aloB s y z = true) : aloB s x z = true := by
  unfold aloB at h1 h2 ⊢
  simp only [Bool.and_eq_true, beq_iff_eq] at h1 h2 ⊢
  exact ⟨and_trans2 h1.1 h2.1, and_trans2 h1.2.1 h2.2.1, and_trans h1.2.2 h2.2.2⟩
/-- each node can do what it can -/
theorem Great.refl {A : AU} {R : Nat → Nat → Bool} (h : Great A R) {i : Nat} (hi : i < A.nodes.length) : R i i = true := by
  refine h.2 (fun a b => a == b) (fun a b ha hb hab => ?_) i i hi hi (by simp)
  obtain rfl : a = b := by simpa using hab
  refine ⟨aloB_refl _ _, ?_⟩
  unfold folB
  rw [List.all_eq_true]
  intro t ht
  rw [List.any_eq_true]
  exact ⟨t, ht, by simp⟩
/-- what goes on goes on -/
theorem Great.trans {A : AU} (hc : chk A = 0) {R : Nat → Nat → Bool} (h : Great A R) {i k j : Nat} (hi : i < A.nodes.length) (hk : k < A.nodes.length) (hj : j < A.nodes.length) (h1 : R i k = true) (h2 : R k j = true) : R i j = true := by
  refine h.2 (fun a b => (List.range A.nodes.length).any fun m => R a m && R m b) (fun a b ha hb hab => ?_) i j hi hj (by rw [List.any_eq_true]; exact ⟨k, by simpa using hk, by rw [h1, h2]; rfl⟩)
  rw [List.any_eq_true] at hab
  obtain ⟨m, hm, hab⟩ := hab
  have hm : m < A.nodes.length := by simpa using hm
  rw [Bool.and_eq_true] at hab
  obtain ⟨a1, a2⟩ := h.1 a m ha hm hab.1
  obtain ⟨b1, b2⟩ := h.1 m b hm hb hab.2
  refine ⟨aloB_trans a1 b1, ?_⟩
  unfold folB at a2 b2 ⊢
  rw [List.all_eq_true] at a2 b2 ⊢
  intro t ht
  have e1 := a2 t ht
  rw [List.any_eq_true] at e1 ⊢
  obtain ⟨u, hu, e2⟩ := e1
  have e3 := b2 u hu
  rw [List.any_eq_true] at e3
  obtain ⟨v, hv, e4⟩ := e3
  refine ⟨v, hv, ?_⟩
  rw [List.any_eq_true]
  obtain ⟨u1, u2⟩ := nd_to hc hm u hu
  exact ⟨u.toNat, by simp; omega, by rw [e2, e4]; rfl⟩
end Go.Proofs.Ytnllgigolfakpaa
