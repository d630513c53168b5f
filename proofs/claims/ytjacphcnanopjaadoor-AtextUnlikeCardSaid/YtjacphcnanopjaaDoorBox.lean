/- Structs in boxes, read and written whole, and what a call hands out of them. No conditions. -/
import Derived.Test.YtjacphcnanopjaaDoorMem
import Derived.Deep.MidRow
namespace Go.Proofs.YtjacphcnanopjaaDoor
open Go.RowKit
set_option linter.unusedVariables false
set_option linter.unusedSimpArgs false

theorem RowAt.there {w : World} {g T : Nat} {l : List Value} (h : RowAt w g T l) : w.there g 0 l.length := fun j hj => by
  rw [Nat.zero_add]
  exact ⟨by rw [h.cell j, List.getElem?_eq_getElem hj]; rfl, h.free j⟩
theorem RowAt.range {w : World} {g T : Nat} {l : List Value} (h : RowAt w g T l) : w.rangeAt g 0 l := fun j v hj => by
  rw [Nat.zero_add, h.cell j]; exact hj
theorem keeps_setCells : ∀ (l : List Value) (w : World) (g k : Nat), Keeps w (w.setCells g k l) (fun j => j = g)
  | [], w, g, k => Keeps.refl _ _
  | v :: l, w, g, k => (Keeps.set (S := fun j => j = g) w g k v rfl).trans (keeps_setCells l _ g (k + 1)) (fun _ _ h => h)
theorem row_setCells : ∀ (l : List Value) (w : World) (g T k : Nat) (pre old : List Value), pre.length = k → old.length = l.length → RowAt w g T (pre ++ old) → RowAt (w.setCells g k l) g T (pre ++ l)
  | [], w, g, T, k, pre, old, hk, hl, h => by
    obtain rfl : old = [] := List.length_eq_zero_iff.1 hl
    exact h
  | v :: l, w, g, T, k, pre, [], hk, hl, h => by cases hl
  | v :: l, w, g, T, k, pre, u :: old, hk, hl, h => by
    have h1 := h.set k v
    rw [List.set_append_right _ _ (by omega), hk, Nat.sub_self] at h1
    have h2 := row_setCells l (w.setCell ⟨g, k, none⟩ v) g T (k + 1) (pre ++ [v]) old (by simp [hk]) (by simpa using hl) (by simpa using h1)
    rw [List.append_assoc, List.singleton_append] at h2
    exact h2
theorem RowAt.whole {w : World} {g T : Nat} {old new : List Value} (h : RowAt w g T old) (hl : old.length = new.length) : RowAt (w.setCells g 0 new) g T new ∧ Keeps w (w.setCells g 0 new) (fun j => j = g) :=
  ⟨row_setCells new w g T 0 [] old rfl hl h, keeps_setCells new w g 0⟩
theorem und_row {T : Nat} (h : (Tryd.prog.underlying T).any (·.isRow) = true) : ∃ d, Tryd.prog.underlying T = some d ∧ d.isRow = true := by
  cases hu : Tryd.prog.underlying T with
  | none => rw [hu] at h; cases h
  | some d => rw [hu] at h; exact ⟨d, rfl, h⟩
section
variable {w : World} {g : Nat} {l old : List Value}
theorem load_whole {T : Nat} (hd : ∃ d, Tryd.prog.underlying T = some d ∧ d.isRow = true) {n : Nat} (hi : (Tryd.prog.info? T).map (·.size) = some n) (h : RowAt w g T l) (hl : l.length = n) : (Instr.loadAt T (.pointer (some ⟨g, 0, none⟩))).run Tryd.prog w = .ok (.agg l.toArray) w := by
  obtain ⟨d, h1, h2⟩ := hd
  exact run_loadAt_mid w g 0 T l d h.range h1 h2 (by rw [hi, hl])
theorem loadVar_whole {T : Nat} (hd : ∃ d, Tryd.prog.underlying T = some d ∧ d.isRow = true) {n : Nat} (hi : (Tryd.prog.info? T).map (·.size) = some n) (h : RowAt w g T l) (hl : l.length = n) : (loadVar T ⟨g, 0, none⟩).run Tryd.prog w = .ok (.agg l.toArray) w := by
  obtain ⟨d, h1, h2⟩ := hd
  exact run_loadVar_mid w g 0 T l d h.range h1 h2 (by rw [hi, hl])
theorem store_whole {T : Nat} {n : Nat} (hi : (Tryd.prog.info? T).map (·.size) = some n) (h : RowAt w g T old) (ho : old.length = n) (hl : l.length = n) (h1 : ∀ v ∈ l, v.oneCell' = true) : ∃ w', (Instr.storeAt T (.pointer (some ⟨g, 0, none⟩)) (.agg l.toArray)).run Tryd.prog w = .ok () w' ∧ RowAt w' g T l ∧ Keeps w w' (fun j => j = g) := by
  have hw := h.whole (ho.trans hl.symm)
  refine ⟨w.setCells g 0 l, ?_, hw.1, hw.2⟩
  have := run_storeAt_mid (P := Tryd.prog) w g 0 T l.toArray (by simpa [ho, hl] using h.there) (by rw [hi]; simp [hl]) (all_oneCell_toArray h1)
  simpa using this
end
theorem eval_of {a : Act} {k : Nat} {v : Value} (h : a.tmps.getD k undef = v) : a.eval (.tmp k) = v := by
  rw [← h]; simp [Act.eval, Array.getD_eq_getD_getElem?]
theorem step_load {T : Nat} (hd : ∃ d, Tryd.prog.underlying T = some d ∧ d.isRow = true) {n : Nat} (hi : (Tryd.prog.info? T).map (·.size) = some n) {w : World} {g : Nat} {l : List Value} (h : RowAt w g T l) (hl : l.length = n) {o : Oper} {a : Act} {Y : Nat → Option Bool} {K : Act → World → Prop} {Q : Exit → Act → World → Prop} {E : Prop} (hg : o.guard = none) (x : Nat) (ho : o.op = .load T (.tmp x)) (hx : a.tmps.getD x undef = .pointer (some ⟨g, 0, none⟩)) (hK : K (a.put o.dst (.agg l.toArray)) w) : if Region.wanted o Y = true then Oper.wp Tryd.prog o a w K Q else E := by
  obtain ⟨d, h1, h2⟩ := hd
  rw [if_pos (by unfold Region.wanted; rw [hg])]
  exact wp_load_mid T (.tmp x) ho g 0 (eval_of hx) l d h.range h1 h2 (by rw [hi, hl]) hK
theorem step_store {T : Nat} {n : Nat} (hi : (Tryd.prog.info? T).map (·.size) = some n) {w : World} {g : Nat} {l old : List Value} (h : RowAt w g T old) (ho' : old.length = n) (hl : l.length = n) (h1 : ∀ v ∈ l, v.oneCell' = true) {o : Oper} {a : Act} {Y : Nat → Option Bool} {K : Act → World → Prop} {Q : Exit → Act → World → Prop} {E : Prop} (hg : o.guard = none) (x y : Nat) (ho : o.op = .store T (.tmp x) (.tmp y)) (hx : a.tmps.getD x undef = .pointer (some ⟨g, 0, none⟩)) (hy : a.tmps.getD y undef = .agg l.toArray) (hK : ∀ w', RowAt w' g T l → Keeps w w' (fun j => j = g) → K (a.put o.dst undef) w') : if Region.wanted o Y = true then Oper.wp Tryd.prog o a w K Q else E := by
  rw [if_pos (by unfold Region.wanted; rw [hg])]
  have hw := h.whole (ho'.trans hl.symm)
  refine wp_store_mid T (.tmp x) (.tmp y) ho g 0 l.toArray (eval_of hx) (eval_of hy) (by simpa [ho', hl] using h.there) (by rw [hi]; simp [hl]) (all_oneCell_toArray h1) ?_
  simpa using hK _ hw.1 hw.2
theorem list_load {T : Nat} (hd : ∃ d, Tryd.prog.underlying T = some d ∧ d.isRow = true) {n : Nat} (hi : (Tryd.prog.info? T).map (·.size) = some n) {w : World} {g : Nat} {l : List Value} (h : RowAt w g T l) (hl : l.length = n) {ops : Array Oper} {rest : List Oper} {o : Oper} {a : Act} {Q : Exit → Act → World → Prop} (hg : o.guard = none) (x : Nat) (ho : o.op = .load T (.tmp x)) (hx : a.tmps.getD x undef = .pointer (some ⟨g, 0, none⟩)) (hK : wpList Tryd.prog ops Q rest (a.put o.dst (.agg l.toArray)) w) : wpList Tryd.prog ops Q (o :: rest) a w := by
  obtain ⟨d, h1, h2⟩ := hd
  exact wpList_load_mid hg T (.tmp x) ho g 0 (eval_of hx) l d h.range h1 h2 (by rw [hi, hl]) hK
theorem list_store {T : Nat} {n : Nat} (hi : (Tryd.prog.info? T).map (·.size) = some n) {w : World} {g : Nat} {l old : List Value} (h : RowAt w g T old) (ho' : old.length = n) (hl : l.length = n) (h1 : ∀ v ∈ l, v.oneCell' = true) {ops : Array Oper} {rest : List Oper} {o : Oper} {a : Act} {Q : Exit → Act → World → Prop} (hg : o.guard = none) (x y : Nat) (ho : o.op = .store T (.tmp x) (.tmp y)) (hx : a.tmps.getD x undef = .pointer (some ⟨g, 0, none⟩)) (hy : a.tmps.getD y undef = .agg l.toArray) (hK : ∀ w', RowAt w' g T l → Keeps w w' (fun j => j = g) → wpList Tryd.prog ops Q rest (a.put o.dst undef) w') : wpList Tryd.prog ops Q (o :: rest) a w := by
  have hw := h.whole (ho'.trans hl.symm)
  refine wpList_store_mid hg T (.tmp x) (.tmp y) ho g 0 l.toArray (eval_of hx) (eval_of hy) (by simpa [ho', hl] using h.there) (by rw [hi]; simp [hl]) (all_oneCell_toArray h1) ?_
  simpa using hK _ hw.1 hw.2
theorem results_ct {fn : Func} {P : Program} {tmps : Array Value} {w : World} {a b t : Nat} (hf : fn.results = #[.cell a t, .tmp b]) {g1 : Nat} {v1 v2 : Value} (ha : tmps.getD a undef = .pointer (some ⟨g1, 0, none⟩)) (hb : tmps.getD b undef = v2) (h1 : (loadVar t ⟨g1, 0, none⟩).run P w = .ok v1 w) : (results fn tmps).run P w = .ok (.tuple #[v1, v2]) w := by
  subst hb
  rw [Array.getD_eq_getD_getElem?] at ha
  simp [results, hf, asAddr, ha, h1]
end Go.Proofs.YtjacphcnanopjaaDoor
