/- Append of numbers that may lie nowhere, and of a text, to numbers of the call's own. Conditions: the bound on an append. -/
import Derived.Test.YtfbddadnnpjjjaaApp
import Derived.Laws.OwnMore
import Derived.Lib.AppendStr
namespace Go.Proofs.Ytfbddadnnpjjjaa
open Go.RowKit

theorem run_appN0 {P : Program} {w : World} (base : Nat) (t ty e : TypeId) (i : TypeInfo) (size : Nat) (ht : P.underlying t = some (.slice e)) (hi : P.info? e = some i)
    (v : Value) (n c : Nat) (xs : List Value) (hown : w.ownsRow base e size v n xs) :
    (Builtin.append_ #[t, t] ty #[v, .slice none 0 c]).run P w = .ok v w := by
  rcases hown.2 with ⟨rfl, rfl⟩ | ⟨g, cap, cur, rfl, _, _, hnc, _⟩
  · simp [Builtin.append_, run_underlying ht, sizeOf, typeInfo, hi, Builtin.lenOf, Builtin.firstCells]
  · simp [Builtin.append_, run_underlying ht, sizeOf, typeInfo, hi, Builtin.lenOf, Builtin.firstCells, hnc, storeCells]

section
variable {P : Program} {w : World} {ops : Array Oper} {rest : List Oper} {o : Oper} {act : Act} {Q : Exit → Act → World → Prop}
theorem wp_appS (hgd : o.guard = none) (s x : Operand) (t e : TypeId) (k : IntKind) (by_ : Nat)
    (ho : o.op = .call { callee := .builtin .append, args := #[s, x], argTypes := #[t, t] }) (ht : P.underlying t = some (.slice e))
    (hi : (P.info? e).map (fun i => (i.zero, i.size, i.bytes)) = some (some (.int k 0), 1, by_)) (base : Nat)
    (a : Option Addr) (n cap : Nat) (xs : List Int) (hs : act.eval s = .slice a n cap) (hown : OwnN k w base e a n cap xs)
    (ad : Option Addr) (m c : Nat) (ys : List Int) (hx : act.eval x = .slice ad m c) (hm : m = ys.length) (hy : NumsAt k w ad ys)
    (hbytes : (n + m) * by_ ≤ 140737488355328) (hby : 0 < by_) (hbase : base ≤ w.heap.size)
    (h : ∀ a' cap' w', OwnN k w' base e a' (n + m) cap' (xs ++ ys) → w.grownBy w' (Value.slice a n cap).ownBlock → wpList P ops Q rest (act.put o.dst (.slice a' (n + m) cap')) w') :
    wpList P ops Q (o :: rest) act w := by
  cases ad with
  | some ad => exact wp_appN hgd s x t e k by_ ho ht hi base a n cap xs hs hown ad m c ys hx hm hy hbytes hby hbase h
  | none =>
    obtain ⟨i, h1, h2, h3, h4⟩ := info_parts hi
    have hy0 : ys = [] := by
      cases ys with
      | nil => rfl
      | cons y ys => obtain ⟨b, off, h, _⟩ := hy (by simp); cases h
    subst hy0
    obtain rfl : m = 0 := hm
    rw [List.append_nil] at h
    refine wpList_plain hgd fun K hK => ?_
    have hrun := run_appN0 (P := P) (w := w) base t o.type e i 1 ht h1 _ n c _ hown
    unfold Oper.wp
    simp [execOp, ho, resolve, invoke, builtin, hs, hx, hrun, Result.andThen]
    exact hK _ _ (h a cap w hown ⟨rfl, rfl, rfl, Nat.le_refl _, fun _ _ _ => rfl⟩)
end

/-- the bytes of a text -/
def txt (s : ByteArray) : List Int := s.data.toList.map fun b => (b.toNat : Int)
theorem txt_len (s : ByteArray) : (txt s).length = s.size := by
  rw [txt, List.length_map, Array.length_toList]
  rfl
section
variable {P : Program} {w : World} {ops : Array Oper} {rest : List Oper} {o : Oper} {act : Act} {Q : Exit → Act → World → Prop}
theorem wp_appT (hgd : o.guard = none) (s x : Operand) (t u e : TypeId)
    (ho : o.op = .call { callee := .builtin .append, args := #[s, x], argTypes := #[t, u] }) (ht : P.underlying t = some (.slice e)) (hu : P.underlying u = some .string)
    (hi : (P.info? e).map (fun i => (i.zero, i.size, i.bytes)) = some (some (.int .u8 0), 1, 1)) (base : Nat)
    (a : Option Addr) (n cap : Nat) (xs : List Int) (hs : act.eval s = .slice a n cap) (hown : OwnN .u8 w base e a n cap xs)
    (st : ByteArray) (hx : act.eval x = .string st) (hbytes : n + st.size ≤ 140737488355328) (hbase : base ≤ w.heap.size)
    (h : ∀ a' cap' w', OwnN .u8 w' base e a' (n + st.size) cap' (xs ++ txt st) → w.grownBy w' (Value.slice a n cap).ownBlock → wpList P ops Q rest (act.put o.dst (.slice a' (n + st.size) cap')) w') :
    wpList P ops Q (o :: rest) act w := by
  obtain ⟨i, h1, h2, h3, h4⟩ := info_parts hi
  refine Lib.wpList_append_own_string w hgd s x t u ho base e i ht hu h1 h2 h3 h4 _ n (xs.map (Value.int .u8)) hs hown st hx (by unfold maxLen; omega) hbytes hbase ?_
  intro v' w' hown' hg _
  obtain ⟨a', cap', rfl⟩ := own_form hown'
  refine h a' cap' w' ?_ hg
  unfold OwnN
  rw [List.map_append]
  have e : Lib.strCells st = (txt st).map (Value.int .u8) := by
    simp [Lib.strCells, txt]
  rw [← e]
  exact hown'
end
theorem OwnN.below' {k : IntKind} {w w' : World} {base e : Nat} {a : Option Addr} {n cap : Nat} {xs : List Int} (h : OwnN k w base e a n cap xs) (hb : Below w.heap.size w w') : OwnN k w' base e a n cap xs := by
  unfold OwnN at h ⊢
  refine ⟨h.1, ?_⟩
  rcases h.2 with hn | ⟨g, cap', cur, hv, hg, hh, r⟩
  · exact .inl hn
  · exact .inr ⟨g, cap', cur, hv, hg, by rw [hb.block g (Array.getElem?_eq_some_iff.1 hh).1]; exact hh, r⟩
theorem OwnN.lt' {k : IntKind} {w : World} {base e : Nat} {a : Option Addr} {n cap : Nat} {xs : List Int} (h : OwnN k w base e a n cap xs) {j : Nat} (hj : (Value.slice a n cap).ownBlock = some j) : base ≤ j ∧ j < w.heap.size := World.ownsRow.lt h j hj
theorem OwnN.mono {k : IntKind} {w : World} {base base' e : Nat} {a : Option Addr} {n cap : Nat} {xs : List Int} (h : OwnN k w base e a n cap xs) (hb : base' ≤ base) : OwnN k w base' e a n cap xs := by
  unfold OwnN at h ⊢
  refine ⟨h.1, ?_⟩
  rcases h.2 with hn | ⟨g, cap', cur, hv, hg, r⟩
  · exact .inl hn
  · exact .inr ⟨g, cap', cur, hv, by omega, r⟩
end Go.Proofs.Ytfbddadnnpjjjaa
