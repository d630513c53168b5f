/- append(append([]T{}, xs...), x), whatever order its operations come in. No conditions. -/
import Derived.Test.YtfcpfcgcfaacnaaSNdAppG
import Derived.Test.YtfcpfcgcfaacnaaSDyn
namespace Go.Proofs.Ytfcpfcgcfaacnaa
open Go.RowKit
structure Ap2 (base T sz n : Nat) (ys xc : List Value) (i0 i1 ix : Nat) (L : Nat → Bool) (rho : Nat → Value) (w : World) : Prop where
 x : L ix = true → ∃ g, rho ix = .slice (some ⟨g, 0, none⟩) 1 1 ∧ base ≤ g ∧ RowAt w g T xc
 z : L i0 = true → L i1 = false → ∃ a c, rho i0 = .slice a 0 c ∧ OwnR w base T sz a 0 c [] ∧ (L ix = true → ∀ g, rho ix = .slice (some ⟨g, 0, none⟩) 1 1 → (Value.slice a 0 c).ownBlock ≠ some g)
 y : L i1 = true → ∃ a c, rho i1 = .slice a n c ∧ OwnR w base T sz a n c ys ∧ (L ix = true → ∀ g, rho ix = .slice (some ⟨g, 0, none⟩) 1 1 → (Value.slice a n c).ownBlock ≠ some g)
section
variable {base T sz n : Nat} {ys xc : List Value} {i0 i1 ix : Nat} {L : Nat → Bool} {rho : Nat → Value} {w : World}
theorem updB_ne {i j : Nat} (h : j ≠ i) : updB L i j = L j := if_neg h
theorem updB_eq (i : Nat) : updB L i i = true := if_pos rfl
theorem updV_ne {i j : Nat} {v : Value} (h : j ≠ i) : updV rho i v j = rho j := if_neg h
theorem updV_eq (i : Nat) (v : Value) : updV rho i v i = v := if_pos rfl
theorem Ap2.start (rho : Nat → Value) (w : World) : Ap2 base T sz n ys xc i0 i1 ix (fun _ => false) rho w := ⟨fun h => (by cases h), fun h => (by cases h), fun h => (by cases h)⟩
theorem Ap2.pass {i : Nat} {v : Value} (h : Ap2 base T sz n ys xc i0 i1 ix L rho w) (h0 : i0 ≠ i) (h1 : i1 ≠ i) (hx : ix ≠ i) : Ap2 base T sz n ys xc i0 i1 ix (updB L i) (updV rho i v) w := by
 refine ⟨?_, ?_, ?_⟩
 ·rw [updB_ne hx, updV_ne hx]; exact h.x
 ·rw [updB_ne h0, updB_ne h1, updB_ne hx, updV_ne h0, updV_ne hx]; exact h.z
 ·rw [updB_ne h1, updB_ne hx, updV_ne h1, updV_ne hx]; exact h.y
theorem Ap2.zero (h : Ap2 base T sz n ys xc i0 i1 ix L rho w) (hb : base ≤ w.heap.size) (h01 : i1 ≠ i0) (h0x : ix ≠ i0) (hc : L i1 = true → L i0 = true) (hl : L i0 = false) :
  Ap2 base T sz n ys xc i0 i1 ix (updB L i0) (updV rho i0 (.slice (some ⟨w.heap.size, 0, none⟩) 0 0)) (w.alloc (.cells #[] T)) := by
 have hl1 : L i1 = false := by
  cases h9 : L i1 with
  | false => rfl
  | true => rw [hc h9] at hl; cases hl
 refine ⟨?_, fun _ _ => ⟨some ⟨w.heap.size, 0, none⟩, 0, updV_eq _ _, own_zero w T T sz base rfl hb, ?_⟩, ?_⟩
 ·rw [updB_ne h0x, updV_ne h0x]
  intro hx
  obtain ⟨g, h1, h2, h3⟩ := h.x hx
  exact ⟨g, h1, h2, h3.alloc _⟩
 ·rw [updB_ne h0x, updV_ne h0x]
  intro hx g hg e
  obtain ⟨g', h1, _, h3⟩ := h.x hx
  have hlt := h3.lt
  rw [hg] at h1
  cases h1
  have := OwnR.lt (own_zero w T T sz base rfl hb) e
  simp [Value.ownBlock] at e
  try omega
 ·rw [updB_ne h01, hl1]
  intro h9; cases h9
theorem Ap2.elem (h : Ap2 base T sz n ys xc i0 i1 ix L rho w) (hb : base ≤ w.heap.size) (h0x : i0 ≠ ix) (h1x : i1 ≠ ix) (xa : Array Value) (hxa : xa.toList = xc) :
  Ap2 base T sz n ys xc i0 i1 ix (updB L ix) (updV rho ix (.slice (some ⟨w.heap.size, 0, none⟩) 1 1)) (w.alloc (.cells xa T)) := by
 refine ⟨fun _ => ⟨w.heap.size, updV_eq _ _, hb, by rw [← hxa]; exact RowAt.new xa rfl⟩, ?_, ?_⟩
 ·rw [updB_ne h0x, updB_ne h1x, updV_ne h0x, updV_eq]
  intro q0 q1
  obtain ⟨a, c, e1, e2, _⟩ := h.z q0 q1
  refine ⟨a, c, e1, OwnR.alloc e2 _, fun _ g hg e => ?_⟩
  have := (OwnR.lt e2 e).2
  cases hg
  omega
 ·rw [updB_ne h1x, updV_ne h1x, updV_eq]
  intro q1
  obtain ⟨a, c, e1, e2, _⟩ := h.y q1
  refine ⟨a, c, e1, OwnR.alloc e2 _, fun _ g hg e => ?_⟩
  have := (OwnR.lt e2 e).2
  cases hg
  omega
theorem Ap2.src (h : Ap2 base T sz n ys xc i0 i1 ix L rho w) (h01 : i0 ≠ i1) (h1x : ix ≠ i1) {a : Option Addr} {c : Nat} (hz : rho i0 = .slice a 0 c) (hl0 : L i0 = true) (hl1 : L i1 = false) {a' : Option Addr} {c' : Nat} {w' : World} (ho : OwnR w' base T sz a' n c' ys) (hg : w.grownBy w' (Value.slice a 0 c).ownBlock) (hat : (Value.slice a' n c').ownBlock = (Value.slice a 0 c).ownBlock ∨ (Value.slice a' n c').ownBlock = some w.heap.size) :
  Ap2 base T sz n ys xc i0 i1 ix (updB L i1) (updV rho i1 (.slice a' n c')) w' := by
 obtain ⟨a9, c9, e1, e2, e3⟩ := h.z hl0 hl1
 rw [hz] at e1
 cases e1
 refine ⟨?_, ?_, fun _ => ⟨a', c', updV_eq _ _, ho, ?_⟩⟩
 ·rw [updB_ne h1x, updV_ne h1x]
  intro hx
  obtain ⟨g, h1, h2, h3⟩ := h.x hx
  exact ⟨g, h1, h2, h3.grow hg (e3 hx g h1)⟩
 ·rw [updB_eq]
  intro _ h9; cases h9
 ·rw [updB_ne h1x, updV_ne h1x]
  intro hx g hg' e
  obtain ⟨g9, h1, _, h3⟩ := h.x hx
  rw [hg'] at h1
  cases h1
  rcases hat with hat | hat
  ·exact e3 hx g hg' (hat.symm.trans e)
  ·rw [hat] at e
   have := h3.lt
   cases e
   omega
structure Ap3 (base T sz n1 n2 : Nat) (ys1 ys2 xc : List Value) (i0 i1 i2 ix : Nat) (L : Nat → Bool) (rho : Nat → Value) (w : World) : Prop where
 x : L ix = true → ∃ g, rho ix = .slice (some ⟨g, 0, none⟩) 1 1 ∧ base ≤ g ∧ RowAt w g T xc
 z : L i0 = true → L i1 = false → ∃ a c, rho i0 = .slice a 0 c ∧ OwnR w base T sz a 0 c [] ∧ (L ix = true → ∀ g, rho ix = .slice (some ⟨g, 0, none⟩) 1 1 → (Value.slice a 0 c).ownBlock ≠ some g)
 y : L i1 = true → L i2 = false → ∃ a c, rho i1 = .slice a n1 c ∧ OwnR w base T sz a n1 c ys1 ∧ (L ix = true → ∀ g, rho ix = .slice (some ⟨g, 0, none⟩) 1 1 → (Value.slice a n1 c).ownBlock ≠ some g)
 u : L i2 = true → ∃ a c, rho i2 = .slice a n2 c ∧ OwnR w base T sz a n2 c ys2 ∧ (L ix = true → ∀ g, rho ix = .slice (some ⟨g, 0, none⟩) 1 1 → (Value.slice a n2 c).ownBlock ≠ some g)
variable {n1 n2 i2 : Nat} {ys1 ys2 : List Value}
theorem Ap3.start (rho : Nat → Value) (w : World) : Ap3 base T sz n1 n2 ys1 ys2 xc i0 i1 i2 ix (fun _ => false) rho w := ⟨fun h => (by cases h), fun h => (by cases h), fun h => (by cases h), fun h => (by cases h)⟩
theorem Ap3.pass {i : Nat} {v : Value} (h : Ap3 base T sz n1 n2 ys1 ys2 xc i0 i1 i2 ix L rho w) (h0 : i0 ≠ i) (h1 : i1 ≠ i) (h2 : i2 ≠ i) (hx : ix ≠ i) : Ap3 base T sz n1 n2 ys1 ys2 xc i0 i1 i2 ix (updB L i) (updV rho i v) w := by
 refine ⟨?_, ?_, ?_, ?_⟩
 ·rw [updB_ne hx, updV_ne hx]; exact h.x
 ·rw [updB_ne h0, updB_ne h1, updB_ne hx, updV_ne h0, updV_ne hx]; exact h.z
 ·rw [updB_ne h1, updB_ne h2, updB_ne hx, updV_ne h1, updV_ne hx]; exact h.y
 ·rw [updB_ne h2, updB_ne hx, updV_ne h2, updV_ne hx]; exact h.u
theorem Ap3.zero (h : Ap3 base T sz n1 n2 ys1 ys2 xc i0 i1 i2 ix L rho w) (hb : base ≤ w.heap.size) (h01 : i1 ≠ i0) (h02 : i2 ≠ i0) (h0x : ix ≠ i0) (hc1 : L i1 = true → L i0 = true) (hc2 : L i2 = true → L i1 = true) (hl : L i0 = false) :
  Ap3 base T sz n1 n2 ys1 ys2 xc i0 i1 i2 ix (updB L i0) (updV rho i0 (.slice (some ⟨w.heap.size, 0, none⟩) 0 0)) (w.alloc (.cells #[] T)) := by
 have hl1 : L i1 = false := by
  cases h9 : L i1 with
  | false => rfl
  | true => rw [hc1 h9] at hl; cases hl
 have hl2 : L i2 = false := by
  cases h9 : L i2 with
  | false => rfl
  | true => rw [hc2 h9] at hl1; cases hl1
 refine ⟨?_, fun _ _ => ⟨some ⟨w.heap.size, 0, none⟩, 0, updV_eq _ _, own_zero w T T sz base rfl hb, ?_⟩, ?_, ?_⟩
 ·rw [updB_ne h0x, updV_ne h0x]
  intro hx
  obtain ⟨g, h1, h2, h3⟩ := h.x hx
  exact ⟨g, h1, h2, h3.alloc _⟩
 ·rw [updB_ne h0x, updV_ne h0x]
  intro hx g hg e
  obtain ⟨g', h1, _, h3⟩ := h.x hx
  have hlt := h3.lt
  rw [hg] at h1
  cases h1
  simp [Value.ownBlock] at e
  omega
 ·rw [updB_ne h01, hl1]
  intro h9; cases h9
 ·rw [updB_ne h02, hl2]
  intro h9; cases h9
theorem Ap3.elem (h : Ap3 base T sz n1 n2 ys1 ys2 xc i0 i1 i2 ix L rho w) (hb : base ≤ w.heap.size) (h0x : i0 ≠ ix) (h1x : i1 ≠ ix) (h2x : i2 ≠ ix) (xa : Array Value) (hxa : xa.toList = xc) :
  Ap3 base T sz n1 n2 ys1 ys2 xc i0 i1 i2 ix (updB L ix) (updV rho ix (.slice (some ⟨w.heap.size, 0, none⟩) 1 1)) (w.alloc (.cells xa T)) := by
 refine ⟨fun _ => ⟨w.heap.size, updV_eq _ _, hb, by rw [← hxa]; exact RowAt.new xa rfl⟩, ?_, ?_, ?_⟩
 ·rw [updB_ne h0x, updB_ne h1x, updV_ne h0x, updV_eq]
  intro q0 q1
  obtain ⟨a, c, e1, e2, _⟩ := h.z q0 q1
  refine ⟨a, c, e1, OwnR.alloc e2 _, fun _ g hg e => ?_⟩
  have := (OwnR.lt e2 e).2
  cases hg
  omega
 ·rw [updB_ne h1x, updB_ne h2x, updV_ne h1x, updV_eq]
  intro q1 q2
  obtain ⟨a, c, e1, e2, _⟩ := h.y q1 q2
  refine ⟨a, c, e1, OwnR.alloc e2 _, fun _ g hg e => ?_⟩
  have := (OwnR.lt e2 e).2
  cases hg
  omega
 ·rw [updB_ne h2x, updV_ne h2x, updV_eq]
  intro q2
  obtain ⟨a, c, e1, e2, _⟩ := h.u q2
  refine ⟨a, c, e1, OwnR.alloc e2 _, fun _ g hg e => ?_⟩
  have := (OwnR.lt e2 e).2
  cases hg
  omega
theorem Ap3.src1 (h : Ap3 base T sz n1 n2 ys1 ys2 xc i0 i1 i2 ix L rho w) (h01 : i0 ≠ i1) (h12 : i2 ≠ i1) (h1x : ix ≠ i1) {a : Option Addr} {c : Nat} (hz : rho i0 = .slice a 0 c) (hl0 : L i0 = true) (hl1 : L i1 = false) (hc2 : L i2 = true → L i1 = true) {a' : Option Addr} {c' : Nat} {w' : World} (ho : OwnR w' base T sz a' n1 c' ys1) (hg : w.grownBy w' (Value.slice a 0 c).ownBlock) (hat : (Value.slice a' n1 c').ownBlock = (Value.slice a 0 c).ownBlock ∨ (Value.slice a' n1 c').ownBlock = some w.heap.size) :
  Ap3 base T sz n1 n2 ys1 ys2 xc i0 i1 i2 ix (updB L i1) (updV rho i1 (.slice a' n1 c')) w' := by
 obtain ⟨a9, c9, e1, e2, e3⟩ := h.z hl0 hl1
 rw [hz] at e1
 cases e1
 have hl2 : L i2 = false := by
  cases h9 : L i2 with
  | false => rfl
  | true => rw [hc2 h9] at hl1; cases hl1
 refine ⟨?_, ?_, fun _ _ => ⟨a', c', updV_eq _ _, ho, ?_⟩, ?_⟩
 ·rw [updB_ne h1x, updV_ne h1x]
  intro hx
  obtain ⟨g, h1, h2, h3⟩ := h.x hx
  exact ⟨g, h1, h2, h3.grow hg (e3 hx g h1)⟩
 ·rw [updB_eq]
  intro _ h9; cases h9
 ·rw [updB_ne h1x, updV_ne h1x]
  intro hx g hg' e
  obtain ⟨g9, h1, _, h3⟩ := h.x hx
  rw [hg'] at h1
  cases h1
  rcases hat with hat | hat
  ·exact e3 hx g hg' (hat.symm.trans e)
  ·rw [hat] at e
   have := h3.lt
   cases e
   omega
 ·rw [updB_ne h12, hl2]
  intro h9; cases h9
theorem Ap3.src2 (h : Ap3 base T sz n1 n2 ys1 ys2 xc i0 i1 i2 ix L rho w) (h02 : i0 ≠ i2) (h12 : i1 ≠ i2) (h2x : ix ≠ i2) {a : Option Addr} {c : Nat} (hz : rho i1 = .slice a n1 c) (hl1 : L i1 = true) (hl2 : L i2 = false) {a' : Option Addr} {c' : Nat} {w' : World} (ho : OwnR w' base T sz a' n2 c' ys2) (hg : w.grownBy w' (Value.slice a n1 c).ownBlock) (hat : (Value.slice a' n2 c').ownBlock = (Value.slice a n1 c).ownBlock ∨ (Value.slice a' n2 c').ownBlock = some w.heap.size) :
  Ap3 base T sz n1 n2 ys1 ys2 xc i0 i1 i2 ix (updB L i2) (updV rho i2 (.slice a' n2 c')) w' := by
 obtain ⟨a9, c9, e1, e2, e3⟩ := h.y hl1 hl2
 rw [hz] at e1
 cases e1
 refine ⟨?_, ?_, ?_, fun _ => ⟨a', c', updV_eq _ _, ho, ?_⟩⟩
 ·rw [updB_ne h2x, updV_ne h2x]
  intro hx
  obtain ⟨g, h1, h2, h3⟩ := h.x hx
  exact ⟨g, h1, h2, h3.grow hg (e3 hx g h1)⟩
 ·rw [updB_ne h12, hl1]
  intro _ h9; cases h9
 ·rw [updB_eq]
  intro _ h9; cases h9
 ·rw [updB_ne h2x, updV_ne h2x]
  intro hx g hg' e
  obtain ⟨g9, h1, _, h3⟩ := h.x hx
  rw [hg'] at h1
  cases h1
  rcases hat with hat | hat
  ·exact e3 hx g hg' (hat.symm.trans e)
  ·rw [hat] at e
   have := h3.lt
   cases e
   omega
end
end Go.Proofs.Ytfcpfcgcfaacnaa
