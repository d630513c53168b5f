/- Which nodes of a graph are reached, and from which a way leads to a goal: plain. No conditions. -/
import Derived.Test.YtnllgigolfakpaaTakesP
namespace Go.Proofs.Ytnllgigolfakpaa

/-- none or more edges -/
def Way0 {α : Type} (E : α → α → Prop) (Z : α → Prop) (p q : α) : Prop := p = q ∨ Way E Z p q
section
variable {α : Type} {E : α → α → Prop} {Z : α → Prop} {p q r : α}
theorem Way0.trans (h : Way0 E Z p q) (k : Way0 E Z q r) : Way0 E Z p r := by
  rcases h with rfl | h
  · exact k
  · rcases k with rfl | k
    · exact .inr h
    · exact .inr (h.trans k)
theorem Way.trans0 (h : Way E Z p q) (k : Way0 E Z q r) : Way E Z p r := by
  rcases k with rfl | k
  · exact h
  · exact h.trans k
theorem Way0.trans1 (h : Way0 E Z p q) (k : Way E Z q r) : Way E Z p r := by
  rcases h with rfl | h
  · exact k
  · exact h.trans k
/-- the same way the other way round -/
theorem Way.turn (h : Way E Z p q) : Way (fun a b => E b a) Z q p := by
  obtain ⟨n, h⟩ := h
  induction n generalizing p with
  | zero => exact Way.one h.2.2 h.2.1 h.1
  | succ n ih =>
    obtain ⟨u, h1, h2, h3⟩ := h
    exact (ih h3).trans (Way.one h3.fst h2 h1)
end
def All {α : Type} (_ : α) : Prop := True
/-- the edges of a graph -/
def GE (es : List (List Nat)) (u v : Nat) : Prop := v ∈ es.getD u []
/-- while nodes are reached -/
structure Rch (es : List (List Nat)) (src op : List Nat) : Prop where
  nd : op.Nodup
  lt : ∀ x ∈ op, x < es.length
  from_ : ∀ x ∈ op, ∃ u ∈ src, Way0 (GE es) All u x
section
variable {es : List (List Nat)} {src op : List Nat}
theorem Rch.nil (es : List (List Nat)) (src : List Nat) : Rch es src [] := ⟨by simp, by simp, by simp⟩
theorem Rch.snoc (h : Rch es src op) {v : Nat} (hv : v ∉ op) (hlt : v < es.length) (hf : ∃ u ∈ src, Way0 (GE es) All u v) : Rch es src (op ++ [v]) := by
  refine ⟨?_, fun x hx => ?_, fun x hx => ?_⟩
  · rw [List.nodup_append]
    refine ⟨h.nd, by simp, fun a ha b hb e => ?_⟩
    simp at hb
    subst hb
    exact hv (e ▸ ha)
  · rcases List.mem_append.1 hx with h1 | h1
    · exact h.lt x h1
    · simp at h1; subst h1; exact hlt
  · rcases List.mem_append.1 hx with h1 | h1
    · exact h.from_ x h1
    · simp at h1; subst h1; exact hf
theorem Rch.step (h : Rch es src op) {x v : Nat} (hx : x ∈ op) (he : v ∈ es.getD x []) (hv : v ∉ op) (hlt : v < es.length) : Rch es src (op ++ [v]) := by
  obtain ⟨u, hu, hw⟩ := h.from_ x hx
  exact h.snoc hv hlt ⟨u, hu, hw.trans (.inr (Way.one trivial he trivial))⟩
theorem nodup_len : ∀ (n : Nat) (l : List Nat), l.Nodup → (∀ x ∈ l, x < n) → l.length ≤ n
  | 0, l, _, h => by
    cases l with
    | nil => simp
    | cons x l => have := h x (by simp); omega
  | n + 1, l, hn, h => by
    by_cases hm : n ∈ l
    · have ih := nodup_len n (l.erase n) (hn.erase n) (fun x hx => by
        rw [hn.mem_erase_iff] at hx
        have := h x hx.2
        have := hx.1
        omega)
      rw [List.length_erase_of_mem hm] at ih
      omega
    · have := nodup_len n l hn (fun x hx => by
        have h1 := h x hx
        have : x ≠ n := fun e => hm (e ▸ hx)
        omega)
      omega
theorem Rch.len (h : Rch es src op) : op.length ≤ es.length := nodup_len _ _ h.nd h.lt
/-- in the end just what is reached is there -/
theorem Rch.all (h : Rch es src op) (hf : ∀ u ∈ src, u ∈ op) (hc : ∀ x ∈ op, ∀ v ∈ es.getD x [], v ∈ op) (v : Nat) : v ∈ op ↔ ∃ u ∈ src, Way0 (GE es) All u v := by
  constructor
  · exact h.from_ v
  · rintro ⟨u, hu, rfl | ⟨n, hw⟩⟩
    · exact hf u hu
    · have hgo : ∀ (n : Nat) (p : Nat), WayN (GE es) All n p v → p ∈ op → v ∈ op := by
        intro n
        induction n with
        | zero => exact fun p hw hp => hc p hp v hw.2.1
        | succ n ih =>
          rintro p ⟨q, _, he, hw⟩ hp
          exact ih q hw (hc p hp q he)
      exact hgo n u hw (hf u hu)
end
/-- those of a graph's nodes that are marked -/
def marks (n : Nat) (op : List Nat) : List Bool := (List.range n).map fun v => decide (v ∈ op)
theorem marks_len (n : Nat) (op : List Nat) : (marks n op).length = n := by simp [marks]
theorem marks_at {n : Nat} {op : List Nat} {v : Nat} (h : v < n) : (marks n op)[v]? = some (decide (v ∈ op)) := by simp [marks, h]
theorem marks_nil (n : Nat) : marks n [] = List.replicate n false := by
  apply List.ext_getElem
  · simp [marks]
  · intro i h1 h2
    simp [marks]
theorem marks_set {n : Nat} {op : List Nat} {v : Nat} (h : v < n) : (marks n op).set v true = marks n (op ++ [v]) := by
  apply List.ext_getElem
  · simp [marks]
  · intro i h1 h2
    rw [List.getElem_set]
    simp only [marks, List.getElem_map, List.getElem_range, List.mem_append, List.mem_singleton]
    by_cases e : v = i
    · subst e; simp
    · rw [if_neg e]
      have e2 : ¬ i = v := fun h => e h.symm
      simp [e2]
end Go.Proofs.Ytnllgigolfakpaa
