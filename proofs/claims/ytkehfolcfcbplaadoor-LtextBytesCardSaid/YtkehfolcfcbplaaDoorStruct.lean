/- How an argument that is a struct, or a slice of such, is opened. No conditions. -/
import Derived.Test.YtkehfolcfcbplaaDoorBase
namespace Go.Proofs.YtkehfolcfcbplaaDoor
open Go.RowKit Go.ChangeShapes Go.WideShapes Go.ChangeAt

/-- the cells of one field -/
theorem opens_field {α : Type} {P : Program} {T : TypeId} {fs : Array Field} {R : Rd α} (hT : P.underlying T = some (.struct fs)) (j o sz : Nat) (f : Field) (hf : fs[j]? = some f) (ho : f.offset = o) (hsz : P.cellsOf f.type = sz) (O : Opens P f.type R)
    {H : Type} {enc : TypeId × Value → H} {w : World} {fuel : Nat} {cs : List Value} {d : DataW H} {ps : List MemPlace}
    (hd : DataW.trod enc P w 0 (fun _ => true) true fuel T cs = some (d, ps)) (hwt : (d.weights P T).all (· ≤ reachBytes) = true) :
    ∃ x, R w ((cs.drop o).take sz) x := by
  subst ho hsz
  obtain ⟨xs, n, rfl, hx, hlen, hxl, hf'⟩ := DataW.trod_struct hT hd
  have h1 := hf' j f hf
  have hj : j < xs.length := by rw [hxl]; exact (Array.getElem?_eq_some_iff.1 hf).1
  rw [List.getElem?_eq_getElem hj] at h1
  simp only [Prod.mk.injEq] at hx
  obtain ⟨rfl, _⟩ := hx
  refine O H enc w n _ xs[j].1 xs[j].2 h1 ?_
  refine List.all_eq_true.2 fun k hk => List.all_eq_true.1 hwt k ?_
  simp only [DataW.weights, hT]
  exact DataW.weights_mem_each (j := j) (t := f.type) (d := xs[j].1) (by simp [hf]) (by simp [List.getElem?_eq_getElem hj]) k hk
theorem trod_struct_len {P : Program} {T : TypeId} {fs : Array Field} (hT : P.underlying T = some (.struct fs)) {H : Type} {enc : TypeId × Value → H} {w : World} {fuel : Nat} {cs : List Value} {x : DataW H × List MemPlace}
    (hd : DataW.trod enc P w 0 (fun _ => true) true fuel T cs = some x) : cs.length = P.cellsOf T := by
  obtain ⟨xs, n, rfl, hx, hlen, _⟩ := DataW.trod_struct hT hd
  exact hlen
theorem open_arg_struct {α H : Type} {enc : TypeId × Value → H} {P : Program} {W : World} {T : TypeId} {fs : Array Field} {r : Reach} {base : Nat} {R : Rd α} {v : Value} {d : DataW H} {p : List MemPlace} (hT : P.underlying T = some (.struct fs)) (O : Opens P T R) (hv : Value.okWide P W r base T v)
    (h : DataW.Trod enc P W 0 (fun _ => true) true T v d p) (hw : (d.weights P T).all (· ≤ reachBytes) = true) : ∃ x cs, v = .agg cs ∧ R W cs.toList x := by
  obtain ⟨cs, rfl, _⟩ := okWide_struct hT hv
  obtain ⟨fuel, hf⟩ := h
  obtain ⟨x, hx⟩ := O H enc W fuel _ d p hf hw
  exact ⟨x, cs, rfl, by simpa [Value.cells] using hx⟩

theorem list2 {α : Type} {l : List α} (h : l.length = 2) : ∃ a b, l = [a, b] := by
  match l, h with
  | [a, b], _ => exact ⟨a, b, rfl⟩
end Go.Proofs.YtkehfolcfcbplaaDoor
