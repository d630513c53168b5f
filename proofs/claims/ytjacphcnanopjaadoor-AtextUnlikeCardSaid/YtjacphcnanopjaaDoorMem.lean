/- Rows of values of several cells that a call owns, and pairs of numbers. Conditions: the bound on an append. 'make([]T, n)', known whole, for an element of one cell. Conditions: the bound on a make. -/
import Derived.Test.YtjacphcnanopjaaDoorBase
import Derived.Maps.AppendAt
import Derived.Deep.RegionLaw
import Derived.Laws.OwnMore
namespace Go.Proofs.YtjacphcnanopjaaDoor
open Go.RowKit

/-- only what S tells may have turned -/
structure Keeps (w w' : World) (S : Nat → Prop) : Prop where
  os : w'.os = w.os
  tape : w'.tape = w.tape
  output : w'.output = w.output
  size : w.heap.size ≤ w'.heap.size
  block : ∀ j, j < w.heap.size → ¬ S j → w'.heap[j]? = w.heap[j]?
theorem Keeps.refl (w : World) (S : Nat → Prop) : Keeps w w S := ⟨rfl, rfl, rfl, Nat.le_refl _, fun _ _ _ => rfl⟩
theorem Keeps.of_grown {w w' : World} {row : Option Nat} {S : Nat → Prop} (hg : w.grownBy w' row) (h : ∀ j, row = some j → S j) : Keeps w w' S :=
  ⟨hg.os, hg.tape, hg.output, hg.size, fun j hj hs => hg.block j hj (fun e => hs (h j e.symm))⟩
theorem Keeps.of_below {w w' : World} {S : Nat → Prop} (h : Below w.heap.size w w') : Keeps w w' S := ⟨h.os, h.tape, h.output, h.size, fun j hj _ => h.block j hj⟩
theorem Keeps.trans {w w1 w2 : World} {S S1 : Nat → Prop} (h : Keeps w w1 S) (k : Keeps w1 w2 S1) (hs : ∀ j, j < w.heap.size → S1 j → S j) : Keeps w w2 S :=
  ⟨k.os.trans h.os, k.tape.trans h.tape, k.output.trans h.output, Nat.le_trans h.size k.size, fun j hj hn => (k.block j (Nat.lt_of_lt_of_le hj h.size) (fun e => hn (hs j hj e))).trans (h.block j hj hn)⟩
theorem Keeps.below {w w' W : World} {S : Nat → Prop} (h : Keeps w w' S) (hb : Below W.heap.size W w) (hs : ∀ j, S j → W.heap.size ≤ j) : Below W.heap.size W w' :=
  ⟨h.os.trans hb.os, h.tape.trans hb.tape, h.output.trans hb.output, Nat.le_trans hb.size h.size, fun j hj => (h.block j (Nat.lt_of_lt_of_le hj hb.size) (fun e => by have := hs j e; omega)).trans (hb.block j hj)⟩
theorem Keeps.alloc (w : World) (o : Obj) (S : Nat → Prop) : Keeps w (w.alloc o) S := Keeps.of_below (balloc (Below.refl _ _) o)
theorem Keeps.drewN (w : World) (n : Nat) (S : Nat → Prop) : Keeps w (w.drewN n) S := Keeps.of_below (bdrewN (Below.refl _ _) n)
theorem RowAt.keeps {w w' : World} {B T : Nat} {l : List Value} {S : Nat → Prop} (h : RowAt w B T l) (hk : Keeps w w' S) (hn : ¬ S B) : RowAt w' B T l := h.keep (hk.block B h.lt hn)
theorem NumsAt.keeps {k : IntKind} {w w' : World} {a : Option Addr} {xs : List Int} {S : Nat → Prop} (h : NumsAt k w a xs) (hk : Keeps w w' S) (hn : ∀ ad : Addr, a = some ad → ¬ S ad.block) : NumsAt k w' a xs :=
  h.keep (fun ad had hlt => hk.block _ hlt (hn ad had))

theorem Keeps.set (w : World) (n j : Nat) (v : Value) {S : Nat → Prop} (hs : S n) : Keeps w (w.setCell ⟨n, j, none⟩ v) S :=
  ⟨rfl, rfl, rfl, by simp [World.setCell], fun k _ hk => Below.heap_setCell _ _ _ _ (by simpa using fun e => hk (by rw [e]; exact hs))⟩
theorem RowAt.kset {w : World} {B T : Nat} {l : List Value} (h : RowAt w B T l) {n : Nat} (hn : n ≠ B) (j : Nat) (v : Value) : RowAt (w.setCell ⟨n, j, none⟩ v) B T l := h.other hn j v
/-- a slice of n values of sz cells each, at the head of a row of the call's own -/
def OwnR (w : World) (base e sz : Nat) (a : Option Addr) (n cap : Nat) (cells : List Value) : Prop := w.ownsRow base e sz (.slice a n cap) n cells
section
variable {w w' : World} {base e sz n cap : Nat} {a : Option Addr} {cells : List Value}
theorem OwnR.nil (w : World) (base e sz : Nat) : OwnR w base e sz none 0 0 [] := World.ownsRow_nil _ _ _ _
theorem OwnR.len (h : OwnR w base e sz a n cap cells) : cells.length = n * sz := by unfold OwnR at h; exact h.1
theorem OwnR.lt (h : OwnR w base e sz a n cap cells) {j : Nat} (hj : (Value.slice a n cap).ownBlock = some j) : base ≤ j ∧ j < w.heap.size := World.ownsRow.lt h j hj
theorem OwnR.alloc (h : OwnR w base e sz a n cap cells) (o : Obj) : OwnR (w.alloc o) base e sz a n cap cells := World.ownsRow.alloc h o
theorem OwnR.keeps {S : Nat → Prop} (h : OwnR w base e sz a n cap cells) (hk : Keeps w w' S) (hn : ∀ j, (Value.slice a n cap).ownBlock = some j → ¬ S j) : OwnR w' base e sz a n cap cells := by
  unfold OwnR at h ⊢
  refine ⟨h.1, ?_⟩
  rcases h.2 with hv | ⟨g, cap', cur, hv, hg, hh, r⟩
  · exact .inl hv
  · exact .inr ⟨g, cap', cur, hv, hg, by rw [hk.block g (Array.getElem?_eq_some_iff.1 hh).1 (hn g (by rw [hv]; rfl))]; exact hh, r⟩
theorem OwnR.caps (h : OwnR w base e sz a n cap cells) : n ≤ cap ∧ cap ≤ maxLen := own_cap h
theorem OwnR.addr (h : OwnR w base e sz a n cap cells) (h0 : 0 < n) : ∃ g, a = some ⟨g, 0, none⟩ ∧ base ≤ g ∧ g < w.heap.size := own_addr h h0
theorem OwnR.cell {g : Nat} (h : OwnR w base e sz (some ⟨g, 0, none⟩) n cap cells) (j : Nat) (hj : j < n * sz) : w.cell? ⟨g, j, none⟩ = cells[j]? := World.ownsRow.cellAt h j hj
theorem OwnR.free {g : Nat} (h : OwnR w base e sz (some ⟨g, 0, none⟩) n cap cells) (j : Nat) : w.frozen? ⟨g, j, none⟩ = false := World.ownsRow.frozenAt h j
end
theorem OwnN.lt2 {k : IntKind} {w : World} {base e n cap : Nat} {a : Option Addr} {xs : List Int} (h : OwnN k w base e a n cap xs) {j : Nat} (hj : (Value.slice a n cap).ownBlock = some j) : base ≤ j ∧ j < w.heap.size := World.ownsRow.lt h j hj
theorem OwnN.keeps {k : IntKind} {w w' : World} {base e n cap : Nat} {a : Option Addr} {xs : List Int} {S : Nat → Prop} (h : OwnN k w base e a n cap xs) (hk : Keeps w w' S) (hn : ∀ j, (Value.slice a n cap).ownBlock = some j → ¬ S j) : OwnN k w' base e a n cap xs :=
  OwnR.keeps (sz := 1) (cells := xs.map (Value.int k)) h hk hn

section
variable {P : Program} {w : World} {ops : Array Oper} {rest : List Oper} {o : Oper} {act : Act} {Q : Exit → Act → World → Prop}
theorem new_cells (w : World) (cs : Array Value) (T : Nat) {n : Nat} (hn : n = w.heap.size) : ∀ j u, cs.toList[j]? = some u → (w.alloc (.cells cs T)).cell? ((⟨n, 0, none⟩ : Addr).add j) = some u := by
  intro j u hj
  subst hn
  rw [add_off, Nat.zero_add, World.cell?_alloc_at _ _ _ _ rfl, ← Array.getElem?_toList]
  exact hj
/-- 'append(out, y)', out a row of the call's own, y of several cells in a new block -/
theorem wp_appR (hgd : o.guard = none) (s x : Operand) (t e : TypeId) (z : Value) (sz by_ : Nat)
    (ho : o.op = .call { callee := .builtin .append, args := #[s, x], argTypes := #[t, t] }) (ht : P.underlying t = some (.slice e))
    (hi : (P.info? e).map (fun i => (i.zero, i.size, i.bytes)) = some (some z, sz, by_)) (hzs : z.cells.size = sz) (hsz : 0 < sz) (base : Nat)
    (a : Option Addr) (n cap : Nat) (cells : List Value) (hs : act.eval s = .slice a n cap) (hown : OwnR w base e sz a n cap cells)
    (g c : Nat) (ys : List Value) (hx : act.eval x = .slice (some ⟨g, 0, none⟩) 1 c) (hl : ys.length = sz) (hy : ∀ j u, ys[j]? = some u → w.cell? ((⟨g, 0, none⟩ : Addr).add j) = some u) (h1 : ∀ u ∈ ys, u.oneCell' = true)
    (hn : n + 1 ≤ maxLen) (hbytes : (n + 1) * by_ ≤ 140737488355328) (hbase : base ≤ w.heap.size)
    (h : ∀ a' cap' w', OwnR w' base e sz a' (n + 1) cap' (cells ++ ys) → w.grownBy w' (Value.slice a n cap).ownBlock → ((Value.slice a' (n + 1) cap').ownBlock = (Value.slice a n cap).ownBlock ∨ (Value.slice a' (n + 1) cap').ownBlock = some w.heap.size) → wpList P ops Q rest (act.put o.dst (.slice a' (n + 1) cap')) w') :
    wpList P ops Q (o :: rest) act w := by
  obtain ⟨i, k1, k2, k3, k4⟩ := info_parts hi
  refine wpList_append_own_at w hgd s x t ho base e i z sz by_ ht k1 k2 k3 k4 hzs hsz _ n cells hs hown ⟨g, 0, none⟩ 1 c ys hx (by omega) hy h1 hn hbytes hbase ?_
  intro v' w' hown' hg _ hat
  obtain ⟨a', cap', rfl⟩ := own_form hown'
  exact h a' cap' w' hown' hg hat
end

section
variable {P : Program} {w : World} {ops : Array Oper} {o : Oper} {act : Act} {Q : Exit → Act → World → Prop}
/-- 'append(out, y)' as one step of a region that draws its order -/
theorem step_appR {K : Act → World → Prop} {E : Prop} (hgd : o.guard = none) (s x : Operand) (t e : TypeId) (z : Value) (sz by_ : Nat)
    (ho : o.op = .call { callee := .builtin .append, args := #[s, x], argTypes := #[t, t] }) (ht : P.underlying t = some (.slice e))
    (hi : (P.info? e).map (fun i => (i.zero, i.size, i.bytes)) = some (some z, sz, by_)) (hzs : z.cells.size = sz) (hsz : 0 < sz) (base : Nat)
    (a : Option Addr) (n cap : Nat) (cells : List Value) (hs : act.eval s = .slice a n cap) (hown : OwnR w base e sz a n cap cells)
    (g c : Nat) (ys : List Value) (hx : act.eval x = .slice (some ⟨g, 0, none⟩) 1 c) (hl : ys.length = sz) (hy : ∀ j u, ys[j]? = some u → w.cell? ((⟨g, 0, none⟩ : Addr).add j) = some u) (h1 : ∀ u ∈ ys, u.oneCell' = true)
    (hn : n + 1 ≤ maxLen) (hbytes : (n + 1) * by_ ≤ 140737488355328) (hbase : base ≤ w.heap.size)
    (h : ∀ a' cap' w', OwnR w' base e sz a' (n + 1) cap' (cells ++ ys) → w.grownBy w' (Value.slice a n cap).ownBlock → ((Value.slice a' (n + 1) cap').ownBlock = (Value.slice a n cap).ownBlock ∨ (Value.slice a' (n + 1) cap').ownBlock = some w.heap.size) → K (act.put o.dst (.slice a' (n + 1) cap')) w') :
    if Region.wanted o (yielded ops act.tmps) = true then Oper.wp P o act w K Q else E := by
  have hw : Region.wanted o (yielded ops act.tmps) = true := by simp [Region.wanted, hgd]
  rw [if_pos hw]
  obtain ⟨i, k1, k2, k3, k4⟩ := info_parts hi
  obtain ⟨v', w', hr, hown', hg, _, hat⟩ := run_append_own_at (P := P) (w := w) base t o.type e i z sz by_ ht k1 k2 k3 k4 hzs hsz _ n cells hown ⟨g, 0, none⟩ 1 c ys (by omega) hy h1 hn hbytes hbase
  obtain ⟨a', cap', rfl⟩ := own_form hown'
  unfold Oper.wp execOp
  simp only [ho, resolve, invoke, builtin, Sem.run_bind, Sem.run_pure, Result.andThen_ok, List.map_toArray, List.map_cons, List.map_nil, hs, hx, hr]
  exact h a' cap' w' hown' hg hat
end

/-! pairs of numbers -/
abbrev PR := Int × Int
def pcells (l : List PR) : List Value := l.flatMap fun p => [.int .i64 p.1, .int .i64 p.2]
theorem pcells_snoc (l : List PR) (p : PR) : pcells (l ++ [p]) = pcells l ++ [.int .i64 p.1, .int .i64 p.2] := by simp [pcells]
theorem pcells_len (l : List PR) : (pcells l).length = l.length * 2 := by
  induction l with
  | nil => rfl
  | cons p l ih => simp only [pcells, List.flatMap_cons, List.length_append, List.length_cons, List.length_nil] at ih ⊢; omega
theorem pcells_at : ∀ (l : List PR) (i : Nat) (hi : i < l.length), (pcells l)[i * 2]? = some (.int .i64 l[i].1) ∧ (pcells l)[i * 2 + 1]? = some (.int .i64 l[i].2)
  | p :: l, 0, _ => by simp [pcells]
  | p :: l, i + 1, hi => by
    have := pcells_at l i (by simpa using hi)
    simp only [pcells, List.flatMap_cons, List.getElem_cons_succ] at this ⊢
    rw [show (i + 1) * 2 = 2 + i * 2 by omega, show 2 + i * 2 + 1 = 2 + (i * 2 + 1) by omega]
    rw [List.getElem?_append_right (by simp), List.getElem?_append_right (by simp only [List.length_cons, List.length_nil]; omega)]
    simpa using this
def OwnP (w : World) (base e : Nat) (a : Option Addr) (n cap : Nat) (l : List PR) : Prop := OwnR w base e 2 a n cap (pcells l)
theorem OwnP.len {w : World} {base e n cap : Nat} {a : Option Addr} {l : List PR} (h : OwnP w base e a n cap l) : l.length = n := by have := OwnR.len h; rw [pcells_len] at this; omega
theorem OwnP.at {w : World} {base e n cap : Nat} {a : Option Addr} {l : List PR} (h : OwnP w base e a n cap l) (i : Nat) (hi : i < l.length) :
    ∃ g, a = some ⟨g, 0, none⟩ ∧ base ≤ g ∧ g < w.heap.size ∧ w.cell? ⟨g, i * 2, none⟩ = some (.int .i64 l[i].1) ∧ w.cell? ⟨g, i * 2 + 1, none⟩ = some (.int .i64 l[i].2) := by
  have hl := h.len
  obtain ⟨g, rfl, h1, h2⟩ := OwnR.addr h (by omega)
  obtain ⟨c1, c2⟩ := pcells_at l i hi
  exact ⟨g, rfl, h1, h2, by rw [OwnR.cell h _ (by omega), c1], by rw [OwnR.cell h _ (by omega), c2]⟩
end Go.Proofs.YtjacphcnanopjaaDoor

namespace Go.Proofs.YtjacphcnanopjaaDoor
open Go.RowKit

theorem wp_makeRow {P : Program} {w : World} {ops : Array Oper} {rest : List Oper} {o : Oper} {act : Act} {Q : Exit → Act → World → Prop} (hgd : o.guard = none) (l c : Operand) (t e : TypeId) (z : Value) (by_ : Nat) (hop : o.op = Op.makeSlice t l c) (ht : P.underlying t = some (.slice e))
    (hi : (P.info? e).map (fun i => (i.zero, i.size, i.bytes)) = some (some z, 1, by_)) (hz : z.cells = #[z])
    (n : Nat) (hl : act.eval l = .int .i64 n) (hc : act.eval c = .int .i64 n) (hbytes : by_ * n ≤ 281474976710656) (hby : 0 < by_)
    (h : ∀ w', RowAt w' w.heap.size e (List.replicate n z) → Below w.heap.size w w' → w.heap.size < w'.heap.size → wpList P ops Q rest (act.put o.dst (.slice (some ⟨w.heap.size, 0, none⟩) n n)) w') :
    wpList P ops Q (o :: rest) act w := by
  obtain ⟨i, h1, h2, h3, h4⟩ := info_parts hi
  refine wpList_make_full w hgd l c t hop w.heap.size e i z 1 ht h1 h2 h3 .i64 .i64 n n n hl hc rfl rfl (by rw [h4]; exact hbytes) ?_ (Nat.le_refl _) ?_
  · unfold maxLen
    have : 1 * n ≤ by_ * n := Nat.mul_le_mul_right _ hby
    omega
  · intro w' hown hg
    have hb : Below w.heap.size w w' := bgrown (Below.refl _ _) hg (by intro k hk; cases hk)
    rcases hown.2 with ⟨hv, _⟩ | ⟨g, cap, cur, hv, _, hg2, hnc, _, hcs, htk⟩
    · cases hv
    · cases hv
      refine h w' ?_ hb (Array.getElem?_eq_some_iff.1 hg2).1
      have hm : (madeCells z.cells n).toList = List.replicate n z := by rw [hz, toList_madeCells_one]
      rw [Nat.mul_one] at htk hcs
      rw [List.take_of_length_le (by simp [hcs])] at htk
      rw [hm] at htk
      unfold RowAt
      rw [hg2, ← htk]
end Go.Proofs.YtjacphcnanopjaaDoor
