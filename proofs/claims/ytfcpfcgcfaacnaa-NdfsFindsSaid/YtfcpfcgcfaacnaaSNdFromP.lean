/- The outer search, plain: what stays, how many edges are counted. No conditions. -/
import Derived.Test.YtfcpfcgcfaacnaaSNdWithin
namespace Go.Proofs.Ytfcpfcgcfaacnaa
open Go.RowKit
section
variable {b : NB} {nx : PP → List PP} {inq : PP → Bool} {p : PP → Prop} {C : Nat}
theorem innerF_none (N : Nice nx p C) : ∀ (f : Nat) (s : NS) (st : List (PP × Nat)) (s1 : NS), IInv b nx p s st → innerF b nx f s st = (s1, none) →
  NInv b nx p s1 ∧ s1.reached = s.reached ∧ s1.ot = s.ot ∧ s1.nodes = s.nodes ∧ s1.edges ≤ s.edges + f := by
 intro f
 induction f with
 | zero =>
  intro s st s1 h hr
  rw [innerF] at hr
  cases hr
  exact ⟨h.inv, rfl, rfl, rfl, Nat.le_add_right _ _⟩
 | succ f ih =>
  intro s st s1 h hr
  match st, h, hr with
  | [], h, hr =>
   rw [innerF_nil] at hr
   cases hr
   exact ⟨h.inv, rfl, rfl, rfl, Nat.le_add_right _ _⟩
  | (x, k) :: r, h, hr =>
   cases hy : (nx x)[k]? with
   | none =>
    rw [innerF_pop hy] at hr
    obtain ⟨h1, h2, h3, h4, h5⟩ := ih s r s1 h.pop hr
    exact ⟨h1, h2, h3, h4, by omega⟩
   | some y =>
    have hk := get_le hy
    by_cases h1 : y ∈ way s.ot
    ·rw [innerF_fail hy h1] at hr
     cases hr
    ·by_cases h2 : y ∈ s.marked
     ·rw [innerF_skip hy h1 h2] at hr
      obtain ⟨q1, q2, q3, q4, q5⟩ := ih _ _ s1 (h.skip hk) hr
      have h6 : (edgeS s).edges = s.edges + 1 := rfl
      exact ⟨q1, q2, q3, q4, by omega⟩
     ·by_cases h3 : b.d < s.ot.length + (r.length + 1)
      ·rw [innerF_over hy h1 h2 h3] at hr
       cases hr
      ·rw [innerF_push hy h1 h2 h3] at hr
       obtain ⟨q1, q2, q3, q4, q5⟩ := ih _ _ s1 (h.push hk h2 (N.val x y (List.mem_of_getElem? hy)) h3) hr
       have h6 : (deepS (markS (edgeS s) y) (s.ot.length + (r.length + 1))).edges = s.edges + 1 := rfl
       exact ⟨q1, q2, q3, q4, by omega⟩
structure AdvO (b : NB) (nx : PP → List PP) (inq : PP → Bool) (p : PP → Prop) (C : Nat) (res : NS × Option NF) (n : Nat) (s : NS) (y : PP) : Prop where
 inv : NInv b nx p s
 py : p y
 mu : muO C s < n
 skip : y ∈ s.reached → outerF b nx inq n s = res
 over : ∀ s2 e, y ∉ s.reached → comeP b s y = (s2, some e) → res = (s2, some e)
 come : ∀ s2, y ∉ s.reached → comeP b s y = (s2, none) → outerF b nx inq n s2 = res ∧ muO C s2 < n ∧ NInv b nx p s2 ∧ s2.edges = s.edges
theorem AdvO.of (N : Nice nx p C) {res : NS × Option NF} {n : Nat} {s : NS} {x y : PP} {k : Nat} {r : List (PP × Nat)} (ho : s.ot = (x, k) :: r) (hI : NInv b nx p s) (hr : outerF b nx inq (n + 1) s = res) (hm : muO C s < n + 1) (hy : (nx x)[k]? = some y) : AdvO b nx inq p C res n (atS (edgeS s) ((x, k + 1) :: r)) y := by
 have hk := get_le hy
 have hp : p y := N.val x y (List.mem_of_getElem? hy)
 have h1 : NInv b nx p (atS (edgeS s) ((x, k + 1) :: r)) := hI.edge.step ho hk
 have h2 := muO_step N ho hk
 refine ⟨h1, hp, by omega, fun h3 => ?_, fun s2 e h3 h4 => ?_, fun s2 h3 h4 => ?_⟩
 ·rw [← hr, outerF_skip ho hy h3]
 ·rw [← hr, outerF_end ho hy h3 h4]
 ·have h5 : y ∉ (atS (edgeS s) ((x, k + 1) :: r)).reached := h3
  refine ⟨by rw [← hr, outerF_come ho hy h3 h4], ?_⟩
  by_cases q1 : b.n ≤ (atS (edgeS s) ((x, k + 1) :: r)).nodes
  ·rw [comeP_n q1] at h4; cases h4
  ·by_cases q2 : b.d < (atS (edgeS s) ((x, k + 1) :: r)).ot.length + 1
   ·rw [comeP_d q1 q2] at h4; cases h4
   ·rw [comeP_ok q1 q2] at h4
    injection h4 with h4 _
    subst h4
    have := muO_come N h1 h5 hp
    exact ⟨by omega, h1.come h5 hp q1 q2, rfl⟩
structure AdvE (b : NB) (nx : PP → List PP) (inq : PP → Bool) (p : PP → Prop) (C : Nat) (res : NS × Option NF) (n : Nat) (s : NS) (x : PP) (r : List (PP × Nat)) : Prop where
 pop : inq x = false → outerF b nx inq n (atS s r) = res ∧ muO C (atS s r) < n ∧ NInv b nx p (atS s r)
 over : ∀ s2 e, inq x = true → innerF b nx FI s [(x, 0)] = (s2, some e) → res = (s2, some e)
 into : ∀ s2, inq x = true → innerF b nx FI s [(x, 0)] = (s2, none) → outerF b nx inq n (atS s2 r) = res ∧ muO C (atS s2 r) < n ∧ NInv b nx p (atS s2 r) ∧ s2.ot = s.ot ∧ s2.nodes = s.nodes ∧ s2.edges ≤ s.edges + FI
theorem AdvE.of (N : Nice nx p C) {res : NS × Option NF} {n : Nat} {s : NS} {x : PP} {k : Nat} {r : List (PP × Nat)} (ho : s.ot = (x, k) :: r) (hI : NInv b nx p s) (hr : outerF b nx inq (n + 1) s = res) (hm : muO C s < n + 1) (hy : (nx x)[k]? = none) : AdvE b nx inq p C res n s x r := by
 refine ⟨fun h => ?_, fun s2 e h h1 => ?_, fun s2 h h1 => ?_⟩
 ·have := muO_pop N hI ho (s1 := s) rfl
  exact ⟨by rw [← hr, outerF_pop ho hy h], by omega, hI.pop ho⟩
 ·rw [← hr, outerF_fail ho hy h h1]
 ·obtain ⟨q1, q2, q3, q4, q5⟩ := innerF_none N FI s _ s2 (IInv.start hI ho) h1
  have := muO_pop N hI ho (s1 := s2) q2
  exact ⟨by rw [← hr, outerF_in ho hy h h1], by omega, q1.pop (by rw [q3]; exact ho), q3, q4, q5⟩
end
end Go.Proofs.Ytfcpfcgcfaacnaa
