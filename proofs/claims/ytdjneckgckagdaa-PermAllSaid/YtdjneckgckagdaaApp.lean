/- Append to numbers of the call's own, with where the new row lies; and as one step of a region that draws its order. Conditions: the bound on an append. -/
import Derived.Test.YtdjneckgckagdaaBase
import Derived.Maps.AppendAt
import Derived.Deep.RegionLaw
namespace Go.Proofs.Ytdjneckgckagdaa
open Go.RowKit

section
variable {P : Program} {w : World} {ops : Array Oper} {rest : List Oper} {o : Oper} {act : Act} {Q : Exit → Act → World → Prop}
theorem wp_app1x (hgd : o.guard = none) (s x : Operand) (t e : TypeId) (k : IntKind) (by_ : Nat)
    (ho : o.op = .call { callee := .builtin .append, args := #[s, x], argTypes := #[t, t] }) (ht : P.underlying t = some (.slice e))
    (hi : (P.info? e).map (fun i => (i.zero, i.size, i.bytes)) = some (some (.int k 0), 1, by_)) (base : Nat)
    (a : Option Addr) (n cap : Nat) (xs : List Int) (hs : act.eval s = .slice a n cap) (hown : OwnN k w base e a n cap xs)
    (g c : Nat) (y : Int) (hx : act.eval x = .slice (some ⟨g, 0, none⟩) 1 c) (hy : w.cell? ⟨g, 0, none⟩ = some (.int k y))
    (hbytes : (n + 1) * by_ ≤ 140737488355328) (hby : 0 < by_) (hbase : base ≤ w.heap.size)
    (h : ∀ a' cap' w', OwnN k w' base e a' (n + 1) cap' (xs ++ [y]) → w.grownBy w' (Value.slice a n cap).ownBlock → ((Value.slice a' (n + 1) cap').ownBlock = (Value.slice a n cap).ownBlock ∨ (Value.slice a' (n + 1) cap').ownBlock = some w.heap.size) → wpList P ops Q rest (act.put o.dst (.slice a' (n + 1) cap')) w') :
    wpList P ops Q (o :: rest) act w := by
  obtain ⟨i, h1, h2, h3, h4⟩ := info_parts hi
  refine wpList_append_own_at w hgd s x t ho base e i (.int k 0) 1 by_ ht h1 h2 h3 h4 rfl (by decide) _ n (xs.map (.int k)) hs hown ⟨g, 0, none⟩ 1 c [.int k y] hx rfl ?_ ?_ ?_ hbytes hbase ?_
  · intro j u hj
    match j, hj with
    | 0, hj =>
      simp at hj
      subst hj
      simpa [Addr.add] using hy
  · intro u hu
    simp at hu
    subst hu
    rfl
  · unfold maxLen
    have : (n + 1) * 1 ≤ (n + 1) * by_ := Nat.mul_le_mul_left _ hby
    omega
  · intro v' w' hown' hg _ hat
    obtain ⟨a', cap', rfl⟩ := own_form hown'
    refine h a' cap' w' ?_ hg hat
    unfold OwnN
    simpa using hown'

/-- 'append(out, ys...)' as one step of a region that draws its order -/
theorem step_appN {K : Act → World → Prop} {E : Prop} (hgd : o.guard = none) (s x : Operand) (t e : TypeId) (k : IntKind) (by_ : Nat)
    (ho : o.op = .call { callee := .builtin .append, args := #[s, x], argTypes := #[t, t] }) (ht : P.underlying t = some (.slice e))
    (hi : (P.info? e).map (fun i => (i.zero, i.size, i.bytes)) = some (some (.int k 0), 1, by_)) (base : Nat)
    (a : Option Addr) (n cap : Nat) (xs : List Int) (hs : act.eval s = .slice a n cap) (hown : OwnN k w base e a n cap xs)
    (ad : Addr) (m c : Nat) (ys : List Int) (hx : act.eval x = .slice (some ad) m c) (hm : m = ys.length) (hy : NumsAt k w (some ad) ys)
    (hbytes : (n + m) * by_ ≤ 140737488355328) (hby : 0 < by_) (hbase : base ≤ w.heap.size)
    (h : ∀ a' cap' w', OwnN k w' base e a' (n + m) cap' (xs ++ ys) → w.grownBy w' (Value.slice a n cap).ownBlock → K (act.put o.dst (.slice a' (n + m) cap')) w') :
    if Region.wanted o (yielded ops act.tmps) = true then Oper.wp P o act w K Q else E := by
  have hw : Region.wanted o (yielded ops act.tmps) = true := by simp [Region.wanted, hgd]
  rw [if_pos hw]
  obtain ⟨i, h1, h2, h3, h4⟩ := info_parts hi
  refine wp_append_own w s x t ho base e i (.int k 0) 1 by_ ht h1 h2 h3 h4 rfl (by decide) _ n (xs.map (.int k)) hs hown ad m c (ys.map (.int k)) hx (by simp [hm]) ?_ ?_ ?_ hbytes hbase ?_
  · intro j u hj
    have hlt : j < ys.length := by
      have := (List.getElem?_eq_some_iff.1 hj).1
      simpa using this
    obtain ⟨b, off, ha, hc⟩ := hy (by omega)
    obtain rfl := Option.some.inj ha
    have e1 : (⟨b, off, none⟩ : Addr).add j = ⟨b, off + j, none⟩ := by unfold Addr.add; split <;> simp_all
    rw [e1, hc j hlt]
    simp only [List.getElem?_map, List.getElem?_eq_getElem hlt, Option.map_some] at hj
    simp only [List.getD, List.getElem?_eq_getElem hlt, Option.getD_some]
    exact hj
  · intro u hu
    obtain ⟨z, _, rfl⟩ := List.mem_map.1 hu
    rfl
  · unfold maxLen
    have : (n + m) * 1 ≤ (n + m) * by_ := Nat.mul_le_mul_left _ hby
    omega
  · intro v' w' hown' hg _
    obtain ⟨a', cap', rfl⟩ := own_form hown'
    refine h a' cap' w' ?_ hg
    unfold OwnN
    rw [List.map_append]
    exact hown'
end
/-- what is owned stays owned where another block is written -/
theorem OwnN.kept {k : IntKind} {w w' : World} {base e : Nat} {a : Option Addr} {n cap : Nat} {xs : List Int} {row : Option Nat} (h : OwnN k w base e a n cap xs) (hg : w.grownBy w' row) (hne : (Value.slice a n cap).ownBlock = none ∨ (Value.slice a n cap).ownBlock ≠ row) : OwnN k w' base e a n cap xs :=
  World.ownsRow.kept h hg hne
end Go.Proofs.Ytdjneckgckagdaa
