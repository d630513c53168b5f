/- Rows of bools in memory; a row is cloned by the library. Conditions: the bound on an append. -/
import Derived.Test.YtnllgigolfakpaaSimMat
import Derived.Maps.AppendAt
namespace Go.Proofs.Ytnllgigolfakpaa
open Go.RowKit

/-- bools lie at a place -/
def BoolsAt (w : World) (a : Option Addr) (xs : List Bool) : Prop :=
  0 < xs.length → ∃ b off, a = some ⟨b, off, none⟩ ∧ ∀ i, i < xs.length → w.cell? ⟨b, off + i, none⟩ = some (.bool (xs.getD i false))
theorem BoolsAt.keep {w w' : World} {a : Option Addr} {xs : List Bool} (h : BoolsAt w a xs) (hb : ∀ ad, a = some ad → ad.block < w.heap.size → w'.heap[ad.block]? = w.heap[ad.block]?) : BoolsAt w' a xs := by
  intro h0
  obtain ⟨b, off, ha, hc⟩ := h h0
  refine ⟨b, off, ha, fun i hi => ?_⟩
  have hlt := World.block_lt_of_cell? w _ (hc i hi)
  rw [World.cell?_of_block (a := ⟨b, off + i, none⟩) (hb ⟨b, off, none⟩ ha hlt)]
  exact hc i hi
theorem BoolsAt.below {w w' : World} {a : Option Addr} {xs : List Bool} (h : BoolsAt w a xs) (hb : Below w.heap.size w w') : BoolsAt w' a xs := h.keep fun _ _ hlt => hb.block _ hlt
theorem BoolsAt.at {w : World} {a : Option Addr} {xs : List Bool} (h : BoolsAt w a xs) (j : Nat) (hj : j < xs.length) : ∃ b off, a = some ⟨b, off, none⟩ ∧ w.cell? ⟨b, off + j, none⟩ = some (.bool xs[j]) := by
  obtain ⟨b, off, ha, hc⟩ := h (by omega)
  have := hc j hj
  rw [List.getD_eq_getElem?_getD, List.getElem?_eq_getElem hj] at this
  exact ⟨b, off, ha, this⟩
/-- rows of bools lie at a place -/
def RowsAt (w : World) (a : Option Addr) (L : List (List Bool)) : Prop :=
  0 < L.length → ∃ b off, a = some ⟨b, off, none⟩ ∧ ∀ i (hi : i < L.length), ∃ ai ci, w.cell? ⟨b, off + i, none⟩ = some (.slice ai L[i].length ci) ∧ BoolsAt w ai L[i]
theorem RowsAt.below {w w' : World} {a : Option Addr} {L : List (List Bool)} (h : RowsAt w a L) (hb : Below w.heap.size w w') : RowsAt w' a L := by
  intro h0
  obtain ⟨b, off, ha, hc⟩ := h h0
  refine ⟨b, off, ha, fun i hi => ?_⟩
  obtain ⟨ai, ci, h1, h2⟩ := hc i hi
  exact ⟨ai, ci, bcell hb h1, h2.below hb⟩
theorem RowsAt.at {w : World} {a : Option Addr} {L : List (List Bool)} (h : RowsAt w a L) (i : Nat) (hi : i < L.length) : ∃ b off ai ci, a = some ⟨b, off, none⟩ ∧ w.cell? ⟨b, off + i, none⟩ = some (.slice ai L[i].length ci) ∧ BoolsAt w ai L[i] := by
  obtain ⟨b, off, ha, hc⟩ := h (by omega)
  obtain ⟨ai, ci, h1, h2⟩ := hc i hi
  exact ⟨b, off, ai, ci, ha, h1, h2⟩
theorem RowsAt.nil (w : World) (a : Option Addr) : RowsAt w a [] := fun h => by simp at h
/-- the cells of rows, each in blocks of a kind -/
def CellsR (w : World) (C : Nat → Prop) : List (List Bool) → List Value → Prop
  | [], cells => cells = []
  | x :: xs, cells => ∃ a c rest, cells = .slice a x.length c :: rest ∧ BoolsAt w a x ∧ (∀ ad : Addr, a = some ad → C ad.block) ∧ CellsR w C xs rest
theorem CellsR.keep {w w' : World} {C C' : Nat → Prop} (hk : ∀ j, C j → w'.heap[j]? = w.heap[j]?) (hC : ∀ j, C j → C' j) : ∀ {xs : List (List Bool)} {cells : List Value}, CellsR w C xs cells → CellsR w' C' xs cells
  | [], _, h => h
  | _ :: _, _, ⟨a, c, rest, h1, h2, h3, h4⟩ => ⟨a, c, rest, h1, h2.keep (fun ad had _ => hk _ (h3 ad had)), fun ad had => hC _ (h3 ad had), CellsR.keep hk hC h4⟩
theorem CellsR.snoc {w : World} {C : Nat → Prop} {y : List Bool} {a : Option Addr} {c : Nat} (h1 : BoolsAt w a y) (h2 : ∀ ad : Addr, a = some ad → C ad.block) : ∀ {xs : List (List Bool)} {cells : List Value}, CellsR w C xs cells → CellsR w C (xs ++ [y]) (cells ++ [.slice a y.length c])
  | [], cells, h => by
    have h' : cells = [] := h
    subst h'
    exact ⟨a, c, [], rfl, h1, h2, rfl⟩
  | x :: xs, cells, ⟨a', c', rest, h3, h4, h5, h6⟩ => by
    subst h3
    exact ⟨a', c', _, rfl, h4, h5, CellsR.snoc h1 h2 h6⟩
theorem CellsR.at {w : World} {C : Nat → Prop} : ∀ {xs : List (List Bool)} {cells : List Value}, CellsR w C xs cells → ∀ i (hi : i < xs.length), ∃ a c, cells[i]? = some (.slice a xs[i].length c) ∧ BoolsAt w a xs[i]
  | _ :: _, _, ⟨a', c', _, rfl, h4, _, _⟩, 0, _ => ⟨a', c', rfl, h4⟩
  | _ :: xs, _, ⟨_, _, _, rfl, _, _, h6⟩, i + 1, hi => by
    obtain ⟨a, c, k0, k1⟩ := h6.at i (by simpa using hi)
    exact ⟨a, c, by simpa using k0, by simpa using k1⟩
theorem CellsR.rows {w : World} {C : Nat → Prop} {B e : Nat} {a : Option Addr} {cap : Nat} {L : List (List Bool)} {cells : List Value} (h : CellsR w C L cells) (ho : OwnR w B e 1 a L.length cap cells) : RowsAt w a L := by
  intro h0
  obtain ⟨g, rfl, _, _⟩ := ho.addr h0
  refine ⟨g, 0, rfl, fun i hi => ?_⟩
  obtain ⟨ai, ci, k0, k1⟩ := h.at i hi
  exact ⟨ai, ci, by rw [Nat.zero_add, ho.cell _ (by omega)]; exact k0, k1⟩

abbrev TB : Nat := 4
theorem infoB : (Try.prog.info? TB).map (fun i => (i.zero, i.size, i.bytes)) = some (some (.bool false), 1, 1) := by kernel_rfl
theorem infoSB : (Try.prog.info? 32).map (fun i => (i.zero, i.size, i.bytes)) = some (some (.slice none 0 0), 1, 24) := by kernel_rfl
/-- a row and where it lies -/
def GivesRow (w : World) (xs : List Bool) (e : Ending) (w' : World) : Prop := ∃ a c, e = .returned (.slice a xs.length c) ∧ BoolsAt w' a xs ∧ (∀ ad : Addr, a = some ad → w.heap.size ≤ ad.block ∧ ad.block < w'.heap.size) ∧ Below w.heap.size w w'
theorem own_bools {w : World} {base e : Nat} {a : Option Addr} {n cap : Nat} {xs : List Bool} (h : OwnR w base e 1 a n cap (xs.map .bool)) : BoolsAt w a xs := by
  intro h0
  have hl := OwnR.len h
  simp at hl
  obtain ⟨g, rfl, _, _⟩ := OwnR.addr h (by omega)
  refine ⟨g, 0, rfl, fun i hi => ?_⟩
  rw [Nat.zero_add, OwnR.cell h i (by omega)]
  simp [List.getD, List.getElem?_eq_getElem hi]
theorem clone_any (w : World) (b off n c : Nat) (xs : List Bool) (hn : n = xs.length) (h : ∀ j (hj : j < xs.length), w.cell? ⟨b, off + j, none⟩ = some (.bool xs[j])) (hl : xs.length ≤ 100000) :
    Calls Try.prog 24 #[.slice (some ⟨b, off, none⟩) n c] w (GivesRow w xs) := by
  subst hn
  have hnil := fun w (a : Option Addr) (n c : Nat) => Lib.run_eql_slice_nil (P := Try.prog) w 32 TB a n c 0 0 Try.underlying32
  have hnews : Hid (∀ j u, (xs.map Value.bool)[j]? = some u → (w.alloc (.cells #[] TB)).cell? ((⟨b, off, none⟩ : Addr).add j) = some u) := fun j u hj => by
    have hlt : j < xs.length := by
      have := (List.getElem?_eq_some_iff.1 hj).1
      simpa using this
    have h1 := h j hlt
    have h2 := World.block_lt_of_cell? w _ h1
    rw [add_off, bcell (balloc (Below.refl _ _) (.cells #[] TB)) h1]
    simp only [List.getElem?_map, List.getElem?_eq_getElem hlt, Option.map_some] at hj
    exact hj
  have hone : Hid (∀ u ∈ xs.map Value.bool, u.oneCell' = true) := fun u hu => by
    obtain ⟨z, _, rfl⟩ := List.mem_map.1 hu
    rfl
  have hlen : Hid ((xs.map Value.bool).length = xs.length * 1) := by show _ = _; simp
  obtain ⟨i, k1, k2, k3, k4⟩ := info_parts infoB
  have hE : Hid (OwnR (w.alloc (.cells #[] TB)) w.heap.size TB 1 (some ⟨w.heap.size, 0, none⟩) 0 0 []) := World.ownsRow_made w #[] 0 (Nat.le_refl _) (Nat.zero_le _) rfl
  have hml : Hid (0 + xs.length ≤ maxLen) := by show _ ≤ _; unfold maxLen; omega
  have hby : Hid ((0 + xs.length) * 1 ≤ 140737488355328) := by show _ ≤ _; omega
  have hbs : Hid (w.heap.size ≤ (w.alloc (.cells #[] TB)).heap.size) := by show _ ≤ _; simp
  replace h := Lib.hid h
  replace hl := Lib.hid hl
  go_enter Try.func24, Try.ntmps24
  go_wp2_with (at_builtin; refine wpList_append_own_at _ rfl _ _ 32 rfl w.heap.size TB i (.bool false) 1 1 Try.underlying32 k1 k2 k3 k4 rfl (by decide) _ 0 [] rfl hE.out ⟨b, off, none⟩ xs.length c (xs.map .bool) rfl hlen.out hnews.out hone.out hml.out hby.out hbs.out ?_)
  intro v' w' hown hg _ hat
  obtain ⟨a', cap', rfl⟩ := own_form hown
  have hb : Below w.heap.size w w' := bgrown (balloc (Below.refl _ _) _) hg (by intro k hk; simp [Value.ownBlock] at hk; omega)
  have hown2 : OwnR w' w.heap.size TB 1 a' xs.length cap' (xs.map .bool) := by
    have h := hown
    first
      | exact h
      | (simp only [Nat.zero_add, List.nil_append] at h; exact h)
  have hb2 := Lib.hid (own_bools hown2)
  have hlt := Lib.hid (fun j hj => OwnR.lt hown2 (j := j) hj)
  go_wp2
  go_ret
  exact ⟨a', cap', by simp, hb2.out, fun ad had => hlt.out ad.block (by rw [had]; rfl), hb⟩
end Go.Proofs.Ytnllgigolfakpaa
