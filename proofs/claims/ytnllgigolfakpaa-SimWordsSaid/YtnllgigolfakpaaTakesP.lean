/- Words that an automaton takes: plain. No conditions. -/
import Derived.Test.YtnllgigolfakpaaAutoChk
namespace Go.Proofs.Ytnllgigolfakpaa

/-- a word: a stem, and a loop that goes on for ever -/
structure WD where
  stem : List Nat
  loop : List Nat
def WD.len (w : WD) : Nat := w.stem.length + w.loop.length
def WD.at (w : WD) (k : Nat) : Nat := if k < w.stem.length then w.stem.getD k 0 else w.loop.getD ((k - w.stem.length) % w.loop.length) 0
def WD.nx (w : WD) (k : Nat) : Nat := if k + 1 = w.len then w.stem.length else k + 1
/-- does a node read a letter -/
def rdB (x : AN) (u : Nat) : Bool := (x.need &&& u == x.need) && (x.ban &&& u == 0)
def ndT (A : AU) (i : Nat) : AN := A.nodes.getD i ⟨0, 0, 0, []⟩
theorem ndT_get {A : AU} {i : Nat} (h : i < A.nodes.length) : ndT A i = A.nodes[i] := by
  unfold ndT
  rw [List.getD_eq_getElem?_getD, List.getElem?_eq_getElem h]
  rfl

abbrev PN := Nat × Nat
/-- an edge of the automaton and the word side by side -/
def PE (A : AU) (w : WD) (p q : PN) : Prop := rdB (ndT A p.1) (w.at p.2) = true ∧ (q.1 : Int) ∈ (ndT A p.1).to ∧ q.2 = w.nx p.2 ∧ rdB (ndT A q.1) (w.at q.2) = true
section
variable {α : Type}
/-- a way of so many edges, and one more, all of it in Z -/
def WayN (E : α → α → Prop) (Z : α → Prop) : Nat → α → α → Prop
  | 0, p, q => Z p ∧ E p q ∧ Z q
  | n + 1, p, r => ∃ q, Z p ∧ E p q ∧ WayN E Z n q r
def Way (E : α → α → Prop) (Z : α → Prop) (p q : α) : Prop := ∃ n, WayN E Z n p q
variable {E : α → α → Prop} {Z Y : α → Prop}
theorem WayN.fst : ∀ {n : Nat} {p q : α}, WayN E Z n p q → Z p
  | 0, _, _, h => h.1
  | _ + 1, _, _, ⟨_, h, _⟩ => h
theorem WayN.lst : ∀ {n : Nat} {p q : α}, WayN E Z n p q → Z q
  | 0, _, _, h => h.2.2
  | _ + 1, _, _, ⟨_, _, _, h⟩ => h.lst
theorem WayN.trans : ∀ {n m : Nat} {p q r : α}, WayN E Z n p q → WayN E Z m q r → WayN E Z (n + 1 + m) p r
  | 0, m, p, q, r, h, k => by
    rw [show 0 + 1 + m = m + 1 by omega]
    exact ⟨q, h.1, h.2.1, k⟩
  | n + 1, m, p, q, r, ⟨u, h1, h2, h3⟩, k => by
    rw [show n + 1 + 1 + m = (n + 1 + m) + 1 by omega]
    exact ⟨u, h1, h2, h3.trans k⟩
theorem WayN.mono (hs : ∀ p, Z p → Y p) : ∀ {n : Nat} {p q : α}, WayN E Z n p q → WayN E Y n p q
  | 0, _, _, h => ⟨hs _ h.1, h.2.1, hs _ h.2.2⟩
  | _ + 1, _, _, ⟨u, h1, h2, h3⟩ => ⟨u, hs _ h1, h2, h3.mono hs⟩
theorem Way.fst {p q : α} (h : Way E Z p q) : Z p := h.choose_spec.fst
theorem Way.lst {p q : α} (h : Way E Z p q) : Z q := h.choose_spec.lst
theorem Way.trans {p q r : α} (h : Way E Z p q) (k : Way E Z q r) : Way E Z p r := by
  obtain ⟨n, h⟩ := h
  obtain ⟨m, k⟩ := k
  exact ⟨_, h.trans k⟩
theorem Way.one {p q : α} (h : Z p) (e : E p q) (k : Z q) : Way E Z p q := ⟨0, h, e, k⟩
theorem Way.more {p q r : α} (h : Z p) (e : E p q) (k : Way E Z q r) : Way E Z p r := by
  obtain ⟨n, k⟩ := k
  exact ⟨n + 1, q, h, e, k⟩
/-- a way is one edge, or one and a way -/
theorem Way.cases {p r : α} (h : Way E Z p r) : Z p ∧ ∃ q, E p q ∧ Z q ∧ (q = r ∨ Way E Z q r) := by
  obtain ⟨n, h⟩ := h
  cases n with
  | zero => exact ⟨h.1, r, h.2.1, h.2.2, .inl rfl⟩
  | succ n =>
    obtain ⟨q, h1, h2, h3⟩ := h
    exact ⟨h1, q, h2, h3.fst, .inr ⟨n, h3⟩⟩
theorem Way.mono (hs : ∀ p, Z p → Y p) {p q : α} (h : Way E Z p q) : Way E Y p q := by
  obtain ⟨n, h⟩ := h
  exact ⟨n, h.mono hs⟩
end
/-- from each pair a way leads on, within, and to each set -/
def Closed (A : AU) (w : WD) (Z : PN → Prop) : Prop := ∀ p, Z p → (∃ q, Way (PE A w) Z p q) ∧ ∀ i, i < A.sets.toNat → ∃ q, Way (PE A w) Z p q ∧ (ndT A q.1).inn.testBit i = true
def Inside (A : AU) (w : WD) (Z : PN → Prop) : Prop := ∀ p, Z p → p.1 < A.nodes.length ∧ p.2 < w.len
/-- from here a way goes on for ever and meets all sets again and again -/
def GoodP (A : AU) (w : WD) (p : PN) : Prop := ∃ Z, Inside A w Z ∧ Closed A w Z ∧ Z p
/-- the automaton takes the word -/
def TakesP (A : AU) (w : WD) : Prop := ∃ i ∈ A.init, rdB (ndT A i.toNat) (w.at 0) = true ∧ GoodP A w (i.toNat, 0)
theorem Closed.reads {A : AU} {w : WD} {Z : PN → Prop} (h : Closed A w Z) {p : PN} (hp : Z p) : rdB (ndT A p.1) (w.at p.2) = true := by
  obtain ⟨⟨q, hq⟩, _⟩ := h p hp
  obtain ⟨_, _, he, _⟩ := hq.cases
  exact he.1
end Go.Proofs.Ytnllgigolfakpaa
