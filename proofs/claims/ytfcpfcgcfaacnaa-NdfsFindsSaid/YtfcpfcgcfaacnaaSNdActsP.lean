/- The acts along pairs, plain. No conditions. -/
import Derived.Test.YtfcpfcgcfaacnaaSNdNodes
namespace Go.Proofs.Ytfcpfcgcfaacnaa
def chain (E : PP → PP → Option Int) : List PP → Option (List Int)
 | [] => some []
 | [_] => some []
 | x :: y :: r => match E x y with
  | none => none
  | some a => match chain E (y :: r) with
   | none => none
   | some xs => some (a :: xs)
theorem chain_snoc (E : PP → PP → Option Int) : ∀ (m : List PP) (x y : PP), chain E (m ++ [x, y]) = match chain E (m ++ [x]) with
  | none => none
  | some xs => match E x y with
   | none => none
   | some a => some (xs ++ [a])
 | [], x, y => by
  show chain E [x, y] = _
  simp only [chain, List.nil_append]
 | [u], x, y => by
  show chain E (u :: x :: [y]) = match chain E (u :: x :: []) with | none => none | some xs => match E x y with | none => none | some a => some (xs ++ [a])
  simp only [chain]
  cases E u x with
  | none => rfl
  | some a => cases E x y <;> rfl
 | u :: v :: m, x, y => by
  have ih := chain_snoc E (v :: m) x y
  show chain E (u :: v :: (m ++ [x, y])) = match chain E (u :: v :: (m ++ [x])) with | none => none | some xs => match E x y with | none => none | some a => some (xs ++ [a])
  rw [chain, chain]
  rw [List.cons_append, List.cons_append] at ih
  rw [ih]
  cases E u v with
  | none => rfl
  | some a =>
   cases chain E (v :: (m ++ [x])) with
   | none => rfl
   | some xs => cases E x y <;> rfl
theorem chain_none (E : PP → PP → Option Int) : ∀ (a b : List PP), chain E a = none → chain E (a ++ b) = none
 | [], b, h => by cases h
 | [u], b, h => by cases h
 | u :: v :: a, b, h => by
  show chain E (u :: v :: (a ++ b)) = none
  rw [chain] at h ⊢
  cases hE : E u v with
  | none => rfl
  | some x =>
   rw [hE] at h
   simp only at h ⊢
   cases hc : chain E (v :: a) with
   | none =>
    have := chain_none E (v :: a) b hc
    rw [List.cons_append] at this
    rw [this]
   | some xs => rw [hc] at h; cases h
theorem chain_append (E : PP → PP → Option Int) : ∀ (a : List PP) (y : PP) (b : List PP), chain E (a ++ y :: b) = match chain E (a ++ [y]) with
  | none => none
  | some xs => match chain E (y :: b) with
   | none => none
   | some ys => some (xs ++ ys)
 | [], y, b => by
  show chain E (y :: b) = match some [] with | none => none | some xs => match chain E (y :: b) with | none => none | some ys => some (xs ++ ys)
  cases chain E (y :: b) <;> rfl
 | [u], y, b => by
  show chain E (u :: y :: b) = match chain E (u :: y :: []) with | none => none | some xs => match chain E (y :: b) with | none => none | some ys => some (xs ++ ys)
  rw [chain, chain]
  cases E u y with
  | none => rfl
  | some a =>
   simp only [chain]
   cases chain E (y :: b) <;> rfl
 | u :: v :: a, y, b => by
  have ih := chain_append E (v :: a) y b
  show chain E (u :: v :: (a ++ y :: b)) = match chain E (u :: v :: (a ++ [y])) with | none => none | some xs => match chain E (y :: b) with | none => none | some ys => some (xs ++ ys)
  rw [chain, chain]
  rw [List.cons_append, List.cons_append] at ih
  rw [ih]
  cases E u v with
  | none => rfl
  | some x =>
   cases chain E (v :: (a ++ [y])) with
   | none => rfl
   | some xs => cases chain E (y :: b) <;> rfl
end Go.Proofs.Ytfcpfcgcfaacnaa
