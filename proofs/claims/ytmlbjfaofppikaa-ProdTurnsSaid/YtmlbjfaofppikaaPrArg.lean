/- How arguments that are pairs, and arrays of two pairs, are opened. No conditions. -/
import Derived.Test.YtmlbjfaofppikaaPrAwake
namespace Go.Proofs.Ytmlbjfaofppikaa
open Go.RowKit Go.ChangeShapes Go.WideShapes Go.ChangeAt

theorem weights_mem_all {H : Type} {P : Program} {t : TypeId} : ∀ {ds : List (DataW H)} {i : Nat} {d : DataW H}, ds[i]? = some d → ∀ n ∈ d.weights P t, n ∈ DataW.weightsAll P t ds
  | d0 :: ds, 0, d, hd, n, hn => by
    simp only [List.getElem?_cons_zero, Option.some.injEq] at hd
    subst hd
    simp only [DataW.weightsAll, List.mem_append]
    exact Or.inl hn
  | d0 :: ds, i + 1, d, hd, n, hn => by
    simp only [DataW.weightsAll, List.mem_append]
    exact Or.inr (weights_mem_all (ds := ds) (i := i) (by simpa using hd) n hn)
def rPP : Rd PP := fun _ cs x => cs = [.int .i64 x.node, .int .i64 x.state, .int .i64 x.turn]
theorem opens_PP : Opens Try.prog TPP rPP := by
  intro H enc w fuel cs d ps hd hwt
  have hl := trod_struct_len Try.underlying32 hd
  have hc : Try.prog.cellsOf TPP = 3 := by kernel_rfl
  obtain ⟨c0, c1, c2, rfl⟩ := list3 (hl.trans hc)
  obtain ⟨x0, h0⟩ := opens_field Try.underlying32 0 0 1 _ rfl rfl (by kernel_rfl) (opens_int Try.underlying3) hd hwt
  obtain ⟨x1, h1⟩ := opens_field Try.underlying32 1 1 1 _ rfl rfl (by kernel_rfl) (opens_int Try.underlying3) hd hwt
  obtain ⟨x2, h2⟩ := opens_field Try.underlying32 2 2 1 _ rfl rfl (by kernel_rfl) (opens_int Try.underlying3) hd hwt
  simp only [List.drop_zero, List.drop_succ_cons, List.take_succ_cons, List.take_zero, rInt, List.cons.injEq, and_true] at h0 h1 h2
  exact ⟨⟨x0, x1, x2⟩, by rw [rPP, h0.1, h1.1, h2.1]⟩
abbrev TP2 : Nat := 33
def rP2 : Rd (PP × PP) := fun _ cs x => cs = [.int .i64 x.1.node, .int .i64 x.1.state, .int .i64 x.1.turn, .int .i64 x.2.node, .int .i64 x.2.state, .int .i64 x.2.turn]
theorem okWide_array {P : Program} {w : World} {r : Reach} {base : Nat} {t e : TypeId} {n : Nat} {v : Value} (ht : P.underlying t = some (.array n e)) (h : Value.okWide P w r base t v) : ∃ cs, v = .agg cs ∧ cs.size = P.cellsOf t := by
  simp only [Value.okWide, ht] at h
  obtain ⟨cs, h1, h2, _⟩ := h
  exact ⟨cs, h1, h2⟩
theorem list6 {α : Type} {l : List α} (h : l.length = 6) : ∃ a b c d e f, l = [a, b, c, d, e, f] := by
  match l, h with
  | [a, b, c, d, e, f], _ => exact ⟨a, b, c, d, e, f, rfl⟩
theorem opens_P2 : Opens Try.prog TP2 rP2 := by
  intro H enc w fuel cs d ps hd hwt
  obtain ⟨xs, n, rfl, hx, hlen, hxl, hf'⟩ := DataW.trod_array Try.underlying33 hd
  have hc : Try.prog.cellsOf TP2 = 6 := by kernel_rfl
  have hc3 : Try.prog.cellsOf TPP = 3 := by kernel_rfl
  obtain ⟨c0, c1, c2, c3, c4, c5, rfl⟩ := list6 (hlen.trans hc)
  simp only [Prod.mk.injEq] at hx
  obtain ⟨rfl, _⟩ := hx
  have one : ∀ i (hi : i < 2), ∃ x, rPP w (([c0, c1, c2, c3, c4, c5].drop (i * 3)).take 3) x := fun i hi => by
    have h1 := hf' i hi
    have hj : i < xs.length := by omega
    rw [List.getElem?_eq_getElem hj, hc3] at h1
    refine opens_PP H enc w n _ xs[i].1 xs[i].2 h1 ?_
    refine List.all_eq_true.2 fun k hk => List.all_eq_true.1 hwt k ?_
    simp only [DataW.weights, Try.underlying33]
    exact weights_mem_all (i := i) (by simp [List.getElem?_eq_getElem hj]) k hk
  obtain ⟨x, hx⟩ := one 0 (by decide)
  obtain ⟨y, hy⟩ := one 1 (by decide)
  simp [rPP] at hx hy
  refine ⟨(x, y), ?_⟩
  obtain ⟨rfl, rfl, rfl⟩ := hx
  obtain ⟨rfl, rfl, rfl⟩ := hy
  rfl
theorem open_arg_array {α H : Type} {enc : TypeId × Value → H} {P : Program} {W : World} {T e : TypeId} {n : Nat} {r : Reach} {base : Nat} {R : Rd α} {v : Value} {d : DataW H} {p : List MemPlace} (hT : P.underlying T = some (.array n e)) (O : Opens P T R) (hv : Value.okWide P W r base T v)
    (h : DataW.Trod enc P W 0 (fun _ => true) true T v d p) (hw : (d.weights P T).all (· ≤ reachBytes) = true) : ∃ x cs, v = .agg cs ∧ R W cs.toList x := by
  obtain ⟨cs, rfl, _⟩ := okWide_array hT hv
  obtain ⟨fuel, hf⟩ := h
  obtain ⟨x, hx⟩ := O H enc W fuel _ d p hf hw
  exact ⟨x, cs, rfl, by simpa [Value.cells] using hx⟩
end Go.Proofs.Ytmlbjfaofppikaa
