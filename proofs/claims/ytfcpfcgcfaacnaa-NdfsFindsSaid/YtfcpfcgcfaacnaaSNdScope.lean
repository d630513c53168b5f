/- A scope that the run jumps back in, with a number that falls; one pass of the inner search, plain. No conditions. -/
import Derived.Test.YtfcpfcgcfaacnaaSNdTell
import Derived.ScopeJumps
namespace Go.Proofs.Ytfcpfcgcfaacnaa
open Go.RowKit
theorem least {p : Nat → Prop} : ∀ n, p n → ∃ m, p m ∧ ∀ k, p k → m ≤ k := by
 intro n
 induction n using Nat.strongRecOn with
 | _ n ih =>
  intro hn
  by_cases h : ∃ k, k < n ∧ p k
  ·obtain ⟨k, hk, hp⟩ := h
   exact ih k hk hp
  ·exact ⟨n, hn, fun k hk => Nat.le_of_not_lt fun hlt => h ⟨k, hlt, hk⟩⟩
theorem wp_scope_num {P : Program} {a : Act} {w : World} {Q : Exit → Act → World → Prop} {c rest : Code} (l : Nat) (J : Nat → Act → World → Prop) (hf : findLabel c l = some (Code.skip.seq rest))
  (pass : ∀ n a w, J n a w → rest.wp P (Exit.jump l (fun a' w' => ∃ m, m < n ∧ J m a' w') Q) a w)
  (first : (∀ n a w, J n a w → rest.wp P (Exit.jump l (fun a' w' => ∃ m, J m a' w') Q) a w) → c.wp P (Exit.jump l (fun a' w' => ∃ m, J m a' w') Q) a w) : (Code.scope c).wp P Q a w := by
 have hd : ∀ a w, ∃ μ : Nat, (∃ n, J n a w) → J μ a w ∧ ∀ k, J k a w → μ ≤ k := fun a w => by
  by_cases h : ∃ n, J n a w
  ·obtain ⟨n, hn⟩ := h
   obtain ⟨m, h1, h2⟩ := least (p := fun n => J n a w) n hn
   exact ⟨m, fun _ => ⟨h1, h2⟩⟩
  ·exact ⟨0, fun hh => absurd hh h⟩
 have weak : ∀ {J1 J2 : Act → World → Prop} {rest : Code} {a : Act} {w : World}, (∀ a w, J1 a w → J2 a w) → rest.wp P (Exit.jump l J1 Q) a w → rest.wp P (Exit.jump l J2 Q) a w := fun hj h => Code.wp_mono (fun e a' w' hq => by
  cases e with
  | goto l' => exact ⟨hq.1, hj _ _ hq.2⟩
  | normal => exact hq
  | exit id => exact hq
  | ret => exact hq
  | panic ch => exact hq
  | outgrown => exact hq) h
 refine wp_scope_jumps l (fun a w => ∃ n, J n a w) (fun a w => Classical.choose (hd a w)) hf (first fun n a w h => weak (fun _ _ ⟨m, _, hm⟩ => ⟨m, hm⟩) (pass n a w h)) fun a w h => ?_
 apply wp_seq
 apply wp_skip
 have h1 := Classical.choose_spec (hd a w) h
 refine weak (fun a' w' ⟨m, hm, hJ⟩ => ⟨⟨m, hJ⟩, ?_⟩) (pass _ a w h1.1)
 exact Nat.lt_of_le_of_lt ((Classical.choose_spec (hd a' w') ⟨m, hJ⟩).2 m hJ) hm
theorem way_bottom (l : List (PP × Nat)) (e : PP × Nat) : way (l ++ [e]) = e.1 :: way l := by simp [way]
structure Adv (b : NB) (nx : PP → List PP) (p : PP → Prop) (C : Nat) (res : NS × Option NF) (n : Nat) (s : NS) (st : List (PP × Nat)) (x : PP) (k : Nat) (y : PP) : Prop where
 inv : IInv b nx p s (st ++ [(x, k)])
 py : p y
 fail : y ∈ way s.ot → res = (s, some ⟨2, 0, s.nodes, s.edges, s.depth, (way s.ot).take ((way s.ot).idxOf y), (way s.ot).drop ((way s.ot).idxOf y) ++ way st⟩)
 skip : y ∉ way s.ot → y ∈ s.marked → innerF b nx n s (st ++ [(x, k)]) = res ∧ muI C s (st ++ [(x, k)]) < n
 over : y ∉ way s.ot → y ∉ s.marked → b.d < s.ot.length + st.length + 1 → res = (markS s y, some (overP (markS s y) 2))
 push : y ∉ way s.ot → y ∉ s.marked → ¬ b.d < s.ot.length + st.length + 1 → innerF b nx n (deepS (markS s y) (s.ot.length + (st.length + 1))) ((y, 0) :: st ++ [(x, k)]) = res ∧ muI C (deepS (markS s y) (s.ot.length + (st.length + 1))) ((y, 0) :: st ++ [(x, k)]) < n ∧ IInv b nx p (deepS (markS s y) (s.ot.length + (st.length + 1))) ((y, 0) :: st ++ [(x, k)])
section
variable {b : NB} {nx : PP → List PP} {p : PP → Prop} {C : Nat} {res : NS × Option NF} {n : Nat} {s : NS} {st r : List (PP × Nat)} {x y u : PP} {k k2 : Nat}
theorem Adv.of (N : Nice nx p C) (hI : IInv b nx p s ((u, k2) :: r)) (hr : innerF b nx (n + 1) s ((u, k2) :: r) = res) (hm : muI C s ((u, k2) :: r) < n + 1) (hy : (nx u)[k2]? = some y) (he : (u, k2 + 1) :: r = st ++ [(x, k)]) : Adv b nx p C res n (edgeS s) st x k y := by
 have hk := get_le hy
 have hp : p y := N.val u y (List.mem_of_getElem? hy)
 have hl : r.length = st.length := by have := congrArg List.length he; simpa using this
 have h1 := hI.skip hk
 rw [he] at h1
 refine ⟨h1, hp, fun h => ?_, fun h h2 => ?_, fun h h2 h3 => ?_, fun h h2 h3 => ?_⟩
 ·rw [← hr, innerF_fail (s := s) hy h]
  unfold failP
  rw [he, way_bottom]
  rfl
 ·refine ⟨?_, ?_⟩
  ·rw [← hr, innerF_skip (s := s) hy h h2, he]
  ·rw [← he]
   have := muI_skip (s := s) (r := r) N hk
   omega
 ·rw [← hr, innerF_over (s := s) hy h h2 (by rw [hl]; show b.d < s.ot.length + (st.length + 1); have h4 : b.d < s.ot.length + st.length + 1 := h3; omega)]
 ·have h4 : ¬ b.d < s.ot.length + (r.length + 1) := by rw [hl]; intro h5; exact h3 (show b.d < s.ot.length + st.length + 1 by omega)
  have e1 : (y, 0) :: st ++ [(x, k)] = (y, 0) :: (u, k2 + 1) :: r := by rw [he]; rfl
  have e2 : s.ot.length + (r.length + 1) = s.ot.length + (st.length + 1) := by rw [hl]
  refine ⟨?_, ?_, ?_⟩
  ·rw [← hr, innerF_push (s := s) hy h h2 h4, e1, e2]
   rfl
  ·rw [e1]
   have := muI_push N hI hk h2 hp (s.ot.length + (st.length + 1))
   show muI C (deepS (markS (edgeS s) y) (s.ot.length + (st.length + 1))) _ < n
   omega
  ·rw [e1]
   have := hI.push hk h2 hp h4
   rw [e2] at this
   exact this
end
end Go.Proofs.Ytfcpfcgcfaacnaa
