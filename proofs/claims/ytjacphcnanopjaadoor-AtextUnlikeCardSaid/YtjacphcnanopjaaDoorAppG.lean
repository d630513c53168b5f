/- Go's append of cells that lie somewhere. Conditions: lengths within int. -/
import Derived.Test.YtjacphcnanopjaaDoorMem
import Derived.Deep.AppendSrc
namespace Go.Proofs.YtjacphcnanopjaaDoor
open Go.RowKit

/-! append of cells that lie somewhere, or nowhere if there are none -/
def SrcAt (w : World) (ad : Option Addr) (ys : List Value) : Prop := ys = [] ∨ ∃ b off, ad = some ⟨b, off, none⟩ ∧ ∀ j u, ys[j]? = some u → w.cell? ⟨b, off + j, none⟩ = some u
theorem SrcAt.nums {k : IntKind} {w : World} {a : Option Addr} {l : List Int} (h : NumsAt k w a l) : SrcAt w a (l.map (Value.int k)) := by
  cases l with
  | nil => exact .inl rfl
  | cons x r =>
    obtain ⟨b, off, ha, hc⟩ := h (by simp)
    refine .inr ⟨b, off, ha, fun j u hj => ?_⟩
    have hi := (List.getElem?_eq_some_iff.1 hj).1
    rw [List.length_map] at hi
    rw [hc j hi]
    rw [List.getElem?_map, List.getElem?_eq_getElem hi] at hj
    rw [List.getD_eq_getElem?_getD, List.getElem?_eq_getElem hi]
    exact hj
theorem SrcAt.row {w : World} {g T : Nat} {l : List Value} (h : RowAt w g T l) : SrcAt w (some ⟨g, 0, none⟩) l :=
  .inr ⟨g, 0, rfl, fun j u hj => by rw [Nat.zero_add, h.cell]; exact hj⟩
theorem ints_one (k : IntKind) (l : List Int) : ∀ u ∈ l.map (Value.int k), u.oneCell' = true := by
  intro u hu
  obtain ⟨x, _, rfl⟩ := List.mem_map.1 hu
  rfl
theorem run_app0 {P : Program} {w : World} (base : Nat) (t ty e : TypeId) (i : TypeInfo) (size : Nat) (ht : P.underlying t = some (.slice e)) (hi : P.info? e = some i)
    (v : Value) (n c : Nat) (xs : List Value) (hown : w.ownsRow base e size v n xs) :
    (Builtin.append_ #[t, t] ty #[v, .slice none 0 c]).run P w = .ok v w := by
  rcases hown.2 with ⟨rfl, rfl⟩ | ⟨g, cap, cur, rfl, _, _, hnc, _⟩
  · simp [Builtin.append_, run_underlying ht, sizeOf, typeInfo, hi, Builtin.lenOf, Builtin.firstCells]
  · simp [Builtin.append_, run_underlying ht, sizeOf, typeInfo, hi, Builtin.lenOf, Builtin.firstCells, hnc, storeCells]
/-- what append gives -/
theorem run_appG {P : Program} {w : World} (t ty e : TypeId) (z : Value) (sz by_ : Nat) (ht : P.underlying t = some (.slice e))
    (hi : (P.info? e).map (fun i => (i.zero, i.size, i.bytes)) = some (some z, sz, by_)) (hzs : z.cells.size = sz) (hsz : 0 < sz) (base : Nat)
    (a : Option Addr) (n cap : Nat) (cells : List Value) (hown : OwnR w base e sz a n cap cells)
    (ad : Option Addr) (m c : Nat) (ys : List Value) (hl : ys.length = m * sz) (hy : SrcAt w ad ys) (h1 : ∀ u ∈ ys, u.oneCell' = true)
    (hn : n + m ≤ maxLen) (hbytes : (n + m) * by_ ≤ 140737488355328) (hbase : base ≤ w.heap.size) :
    ∃ a' cap' w', (Builtin.append_ #[t, t] ty #[.slice a n cap, .slice ad m c]).run P w = .ok (.slice a' (n + m) cap') w' ∧ OwnR w' base e sz a' (n + m) cap' (cells ++ ys) ∧ w.grownBy w' (Value.slice a n cap).ownBlock ∧ ((Value.slice a' (n + m) cap').ownBlock = (Value.slice a n cap).ownBlock ∨ (Value.slice a' (n + m) cap').ownBlock = some w.heap.size) := by
  obtain ⟨i, k1, k2, k3, k4⟩ := info_parts hi
  cases ad with
  | none =>
    have hy0 : ys = [] := by
      rcases hy with h | ⟨b, off, h, _⟩
      · exact h
      · cases h
    subst hy0
    obtain rfl : m = 0 := by
      rw [List.length_nil] at hl
      rcases Nat.eq_zero_or_pos m with h | h
      · exact h
      · have := Nat.mul_pos h hsz; omega
    exact ⟨a, cap, w, run_app0 base t ty e i sz ht k1 _ n c cells hown, by rw [List.append_nil]; exact hown, ⟨rfl, rfl, rfl, Nat.le_refl _, fun _ _ _ => rfl⟩, .inl rfl⟩
  | some ad =>
    have hnews : ∀ j u, ys[j]? = some u → w.cell? (ad.add j) = some u := by
      rcases hy with rfl | ⟨b, off, h, hc⟩
      · intro j u hj; simp at hj
      · cases h
        intro j u hj
        rw [add_off]
        exact hc j u hj
    obtain ⟨v', w', hr, hown', hg, _, hat⟩ := run_append_own_at (P := P) (w := w) base t ty e i z sz by_ ht k1 k2 k3 k4 hzs hsz _ n cells hown ad m c ys hl hnews h1 hn hbytes hbase
    obtain ⟨a', cap', rfl⟩ := own_form hown'
    exact ⟨a', cap', w', hr, hown', hg, hat⟩
section
variable {P : Program} {w : World} {ops : Array Oper} {rest : List Oper} {o : Oper} {act : Act} {Q : Exit → Act → World → Prop}
theorem step_appG {K : Act → World → Prop} {E : Prop} (hgd : o.guard = none) (s x : Operand) (t e : TypeId) (z : Value) (sz by_ : Nat)
    (ho : o.op = .call { callee := .builtin .append, args := #[s, x], argTypes := #[t, t] }) (ht : P.underlying t = some (.slice e))
    (hi : (P.info? e).map (fun i => (i.zero, i.size, i.bytes)) = some (some z, sz, by_)) (hzs : z.cells.size = sz) (hsz : 0 < sz) (base : Nat)
    (a : Option Addr) (n cap : Nat) (cells : List Value) (hs : act.eval s = .slice a n cap) (hown : OwnR w base e sz a n cap cells)
    (ad : Option Addr) (m c : Nat) (ys : List Value) (hx : act.eval x = .slice ad m c) (hl : ys.length = m * sz) (hy : SrcAt w ad ys) (h1 : ∀ u ∈ ys, u.oneCell' = true)
    (hn : n + m ≤ maxLen) (hbytes : (n + m) * by_ ≤ 140737488355328) (hbase : base ≤ w.heap.size)
    (h : ∀ a' cap' w', OwnR w' base e sz a' (n + m) cap' (cells ++ ys) → w.grownBy w' (Value.slice a n cap).ownBlock → ((Value.slice a' (n + m) cap').ownBlock = (Value.slice a n cap).ownBlock ∨ (Value.slice a' (n + m) cap').ownBlock = some w.heap.size) → K (act.put o.dst (.slice a' (n + m) cap')) w') :
    if Region.wanted o (yielded ops act.tmps) = true then Oper.wp P o act w K Q else E := by
  have hw : Region.wanted o (yielded ops act.tmps) = true := by simp [Region.wanted, hgd]
  rw [if_pos hw]
  obtain ⟨a', cap', w', hr, hown', hg, hat⟩ := run_appG (P := P) (w := w) t o.type e z sz by_ ht hi hzs hsz base a n cap cells hown ad m c ys hl hy h1 hn hbytes hbase
  unfold Oper.wp execOp
  simp only [ho, resolve, invoke, builtin, Sem.run_bind, Sem.run_pure, Result.andThen_ok, List.map_toArray, List.map_cons, List.map_nil, hs, hx, hr]
  exact h a' cap' w' hown' hg hat
theorem wp_appG (hgd : o.guard = none) (s x : Operand) (t e : TypeId) (z : Value) (sz by_ : Nat)
    (ho : o.op = .call { callee := .builtin .append, args := #[s, x], argTypes := #[t, t] }) (ht : P.underlying t = some (.slice e))
    (hi : (P.info? e).map (fun i => (i.zero, i.size, i.bytes)) = some (some z, sz, by_)) (hzs : z.cells.size = sz) (hsz : 0 < sz) (base : Nat)
    (a : Option Addr) (n cap : Nat) (cells : List Value) (hs : act.eval s = .slice a n cap) (hown : OwnR w base e sz a n cap cells)
    (ad : Option Addr) (m c : Nat) (ys : List Value) (hx : act.eval x = .slice ad m c) (hl : ys.length = m * sz) (hy : SrcAt w ad ys) (h1 : ∀ u ∈ ys, u.oneCell' = true)
    (hn : n + m ≤ maxLen) (hbytes : (n + m) * by_ ≤ 140737488355328) (hbase : base ≤ w.heap.size)
    (h : ∀ a' cap' w', OwnR w' base e sz a' (n + m) cap' (cells ++ ys) → w.grownBy w' (Value.slice a n cap).ownBlock → wpList P ops Q rest (act.put o.dst (.slice a' (n + m) cap')) w') :
    wpList P ops Q (o :: rest) act w := by
  obtain ⟨a', cap', w', hr, hown', hg, _⟩ := run_appG (P := P) (w := w) t o.type e z sz by_ ht hi hzs hsz base a n cap cells hown ad m c ys hl hy h1 hn hbytes hbase
  refine wpList_plain hgd fun K hK => ?_
  unfold Oper.wp
  simp [execOp, ho, resolve, invoke, builtin, hs, hx, hr, Result.andThen]
  exact hK _ _ (h a' cap' w' hown' hg)
end
/-- an empty row of the call's own -/
theorem own_zero (w : World) (T e sz base : Nat) (hT : T = e) (hb : base ≤ w.heap.size) : OwnR (w.alloc (.cells #[] T)) base e sz (some ⟨w.heap.size, 0, none⟩) 0 0 [] := by
  subst hT
  exact World.ownsRow_made w #[] 0 hb (Nat.zero_le _) (by simp)
end Go.Proofs.YtjacphcnanopjaaDoor
