/- The nodes that are made are nodes with turns: plain. No conditions. -/
import Derived.Test.YtefplklkhcpchaaDegWordsPlain
import Derived.Test.YtefplklkhcpchaaDegSmallPlain
namespace Go.Proofs.Ytefplklkhcpchaa

theorem numP_at (l : List PR) (p : PR) : (numP l p).1[(numP l p).2]? = some p := by
  unfold numP
  by_cases h : p ∈ l
  · rw [if_pos h]
    have hlt := List.idxOf_lt_length_iff.2 h
    simp only
    rw [List.getElem?_eq_getElem hlt, List.getElem_idxOf hlt]
  · rw [if_neg h]
    simp
theorem pre_at {l r : List PR} {j : Nat} {p : PR} (h : l[j]? = some p) : (l ++ r)[j]? = some p := by
  rw [List.getElem?_append_left (List.getElem?_eq_some_iff.1 h).1]
  exact h
theorem putP_back {o : List Int} {n : Nat} {x : Int} (h : x ∈ putP o n) : x ∈ o ∨ x = (n : Int) := by
  unfold putP at h
  split at h
  · exact .inl h
  · simpa using h
theorem row_to (t : Int) : ∀ (xs : List Int) (st : List PR × List Int), (∃ r, (rowP t xs st).1 = st.1 ++ r) ∧ (∀ x ∈ st.2, x ∈ (rowP t xs st).2) ∧ (∀ q ∈ xs, ∃ x : Nat, (x : Int) ∈ (rowP t xs st).2 ∧ (rowP t xs st).1[x]? = some (q, t)) ∧
    (∀ x ∈ (rowP t xs st).2, x ∈ st.2 ∨ ∃ (j : Nat) (q : Int), x = (j : Int) ∧ q ∈ xs ∧ (rowP t xs st).1[j]? = some (q, t))
  | [], st => ⟨⟨[], by simp [rowP]⟩, fun x h => h, by simp, fun x h => .inl h⟩
  | q :: xs, st => by
    obtain ⟨⟨r, h1⟩, h2, h3, h4⟩ := row_to t xs (rowStep t st q)
    obtain ⟨r0, h0, _⟩ := numP_pre st.1 (q, t)
    have e : rowP t (q :: xs) st = rowP t xs (rowStep t st q) := rfl
    have e1 : (rowStep t st q).1 = (numP st.1 (q, t)).1 := rfl
    have e2 : (rowStep t st q).2 = putP st.2 (numP st.1 (q, t)).2 := rfl
    have hat : (rowP t xs (rowStep t st q)).1[(numP st.1 (q, t)).2]? = some (q, t) := by
      rw [h1, e1]
      exact pre_at (numP_at _ _)
    rw [e]
    refine ⟨⟨r0 ++ r, by rw [h1, e1, h0, List.append_assoc]⟩, fun x hx => h2 x (by rw [e2]; exact putP_sub hx _), fun y hy => ?_, fun x hx => ?_⟩
    · rcases List.mem_cons.1 hy with rfl | hy
      · exact ⟨_, h2 _ (by rw [e2]; exact putP_mem _ _), hat⟩
      · exact h3 y hy
    · rcases h4 x hx with h | ⟨j, p, h5, h6, h7⟩
      · rw [e2] at h
        rcases putP_back h with h | h
        · exact .inl h
        · exact .inr ⟨_, q, h, by simp, hat⟩
      · exact .inr ⟨j, p, h5, by simp [h6], h7⟩
/-- what a node is that is made of a pair, by the list of all pairs -/
structure NodeIs (A : AU) (l : List PR) (y : AN) (p : PR) : Prop where
  need : y.need = (nodeAt A p.1).need
  ban : y.ban = (nodeAt A p.1).ban
  inn : y.inn = inP A p
  to1 : ∀ q ∈ (nodeAt A p.1).to, ∃ x : Nat, (x : Int) ∈ y.to ∧ l[x]? = some (q, turnP A p)
  to2 : ∀ x ∈ y.to, ∃ (j : Nat) (q : Int), x = (j : Int) ∧ q ∈ (nodeAt A p.1).to ∧ l[j]? = some (q, turnP A p)
theorem NodeIs.ext {A : AU} {l : List PR} {y : AN} {p : PR} (h : NodeIs A l y p) (r : List PR) : NodeIs A (l ++ r) y p :=
  ⟨h.need, h.ban, h.inn, fun q hq => by
    obtain ⟨x, h1, h2⟩ := h.to1 q hq
    exact ⟨x, h1, pre_at h2⟩, fun x hx => by
    obtain ⟨j, q, h1, h2, h3⟩ := h.to2 x hx
    exact ⟨j, q, h1, h2, pre_at h3⟩⟩
theorem NodeIs.made (A : AU) (l : List PR) (p : PR) : NodeIs A (nodeP A l p).1 (nodeP A l p).2 p := by
  obtain ⟨_, _, h3, h4⟩ := row_to (turnP A p) (nodeAt A p.1).to (l, [])
  exact ⟨rfl, rfl, rfl, h3, fun x hx => by
    rcases h4 x hx with h | h
    · simp at h
    · exact h⟩
theorem loop_pairs {A : AU} {s : Nat} (hA : A.sets = (s : Int)) (hc : chk A = 0) : ∀ (f i : Nat) (l : List PR) (out ns : List AN), loopP A f i l out = some ns → out.length = i → i ≤ l.length → i ≤ 256 → f + i = 258 → (∀ p ∈ l, goodP A.nodes.length s p) →
    ∃ l', (∃ r, l' = l ++ r) ∧ l'.length = ns.length ∧ (∃ r, ns = out ++ r) ∧ (∀ p ∈ l', goodP A.nodes.length s p) ∧ ∀ j, i ≤ j → j < ns.length → NodeIs A l' (ns.getD j ANZ) (l'.getD j (0, 0))
  | 0, i, l, out, ns, h, ho, hil, h256, hf, hg => by omega
  | f + 1, i, l, out, ns, h, ho, hil, h256, hf, hg => by
    unfold loopP at h
    by_cases h1 : 256 < l.length
    · rw [if_pos h1] at h; cases h
    rw [if_neg h1] at h
    by_cases h2 : i < l.length
    · rw [if_pos h2] at h
      have hp : goodP A.nodes.length s (l.getD i (0, 0)) := by
        rw [List.getD_eq_getElem?_getD, List.getElem?_eq_getElem h2]
        exact hg _ (List.getElem_mem h2)
      have hli : l[i]? = some (l.getD i (0, 0)) := by
        rw [List.getD_eq_getElem?_getD, List.getElem?_eq_getElem h2]
        rfl
      generalize l.getD i (0, 0) = p at h hp hli
      have hl2 : l.length ≤ (nodeP A l p).1.length := (row_len _ _ (l, ([] : List Int))).2
      obtain ⟨⟨r1, e1⟩, _⟩ := row_to (turnP A p) (nodeAt A p.1).to (l, [])
      have e1' : (nodeP A l p).1 = l ++ r1 := e1
      obtain ⟨l', ⟨r, hr⟩, k1, ⟨r2, k2⟩, k3, k4⟩ := loop_pairs hA hc f (i + 1) _ _ ns h (by simp [ho]) (by omega) (by omega) (by omega) (good_node hA hc hg hp)
      refine ⟨l', ⟨r1 ++ r, by rw [hr, e1', List.append_assoc]⟩, k1, ⟨(nodeP A l p).2 :: r2, by rw [k2]; simp⟩, k3, fun j h3 h4 => ?_⟩
      by_cases hj : j = i
      · subst hj
        have y1 : ns.getD j ANZ = (nodeP A l p).2 := by
          rw [k2, List.getD_eq_getElem?_getD, List.append_assoc, List.getElem?_append_right (by omega), ho, Nat.sub_self]
          rfl
        have y2 : l'.getD j (0, 0) = p := by
          rw [List.getD_eq_getElem?_getD, hr, e1', List.append_assoc, pre_at hli]
          rfl
        rw [y1, y2, hr]
        exact (NodeIs.made A l p).ext r
      · exact k4 j (by omega) h4
    · rw [if_neg h2] at h
      simp only [Option.some.injEq] at h
      subst h
      exact ⟨l, ⟨[], by simp⟩, by omega, ⟨[], by simp⟩, hg, fun j h3 h4 => by omega⟩
theorem bit_int {n t : Nat} : bitN n (t : Int) = n.testBit t := by
  unfold bitN
  rw [Int.toNat_natCast, Nat.testBit_eq_decide_div_mod_eq]
  cases h : decide (n / 2 ^ t % 2 = 1) with
  | true => simpa using h
  | false => simpa using h
theorem nodeAt_ndT (A : AU) (q : Nat) : nodeAt A (q : Int) = ndT A q := rfl
theorem turn_nat {A : AU} {s : Nat} (hA : A.sets = (s : Int)) (q t : Nat) : turnP A ((q : Int), (t : Int)) = ((trn A s q t : Nat) : Int) := by
  unfold turnP trn
  simp only [bit_int, nodeAt_ndT, hA]
  by_cases h : 0 < s ∧ (ndT A q).inn.testBit t = true
  · have h2 : 0 < (s : Int) := by omega
    rw [if_pos h, if_pos ⟨h2, h.2⟩]
    exact (Int.natCast_emod (t + 1) s).symm
  · rw [if_neg h, if_neg (fun hh => h ⟨by omega, hh.2⟩)]
theorem in_bit {A : AU} {s : Nat} (hA : A.sets = (s : Int)) (q t : Nat) : (inP A ((q : Int), (t : Int))).testBit 0 = true ↔ (s = 0 ∨ (t = 0 ∧ (ndT A q).inn.testBit 0 = true)) := by
  have e0 : bitN (nodeAt A (q : Int)).inn 0 = (ndT A q).inn.testBit 0 := bit_int (t := 0)
  unfold inP
  simp only [e0, hA]
  by_cases h : (s : Int) = 0 ∨ ((t : Int) = 0 ∧ (ndT A q).inn.testBit 0 = true)
  · rw [if_pos h]
    refine ⟨fun _ => ?_, fun _ => rfl⟩
    rcases h with h | ⟨h, h2⟩
    · exact .inl (by omega)
    · exact .inr ⟨by omega, h2⟩
  · rw [if_neg h]
    refine ⟨fun e => by simp at e, fun hh => ?_⟩
    refine absurd ?_ h
    rcases hh with hh | ⟨hh, h2⟩
    · exact .inl (by omega)
    · exact .inr ⟨by omega, h2⟩
/-- the nodes of what is made are nodes with turns -/
theorem one_prd {A : AU} {s : Nat} (hA : A.sets = (s : Int)) {B : AU} (h : oneP A = (0, B)) : ∃ L, Prd A B s L := by
  unfold oneP at h
  by_cases hc : chk A ≠ 0
  · rw [if_pos hc] at h
    simp only [Prod.mk.injEq] at h
    exact absurd h.1 hc
  rw [if_neg hc] at h
  have hc : chk A = 0 := by simpa using hc
  obtain ⟨_, _, _, g4, g5⟩ := chk_good hc
  have hg0 : ∀ p ∈ (rowP 0 A.init ([], [])).1, goodP A.nodes.length s p := good_row A.init ([], []) (by simp) (fun q hq => by
    obtain ⟨h1, h2⟩ := g4 q hq
    exact ⟨q.toNat, 0, by simp; omega, by omega, by omega⟩)
  obtain ⟨_, _, i3, i4⟩ := row_to 0 A.init ([], [])
  cases hl : loopP A 258 0 (rowP 0 A.init ([], [])).1 [] with
  | none =>
    rw [hl] at h
    simp at h
  | some ns =>
    rw [hl] at h
    simp only [Prod.mk.injEq, true_and] at h
    subst h
    obtain ⟨l, ⟨r, hr⟩, k1, _, k3, k4⟩ := loop_pairs hA hc 258 0 _ [] ns hl rfl (Nat.zero_le _) (by omega) rfl hg0
    have node : ∀ i q t : Nat, l[i]? = some ((q : Int), (t : Int)) → NodeIs A l (ndT ⟨1, (rowP 0 A.init ([], [])).2, ns⟩ i) ((q : Int), (t : Int)) := fun i q t hi => by
      have hlt := (List.getElem?_eq_some_iff.1 hi).1
      have := k4 i (Nat.zero_le _) (by omega)
      rw [List.getD_eq_getElem?_getD (l := l), hi] at this
      exact this
    have goodq : ∀ (i : Nat) (q t : Int), l[i]? = some (q, t) → ∃ a b : Nat, q = (a : Int) ∧ t = (b : Int) ∧ a < A.nodes.length ∧ b < max s 1 := fun i q t hi => by
      obtain ⟨a, b, e, h1, h2⟩ := k3 _ (List.mem_of_getElem? hi)
      simp only [Prod.mk.injEq] at e
      exact ⟨a, b, e.1, e.2, h1, h2⟩
    refine ⟨fun i q t => l[i]? = some ((q : Int), (t : Int)), by rw [hA]; rfl, rfl, fun i q t hi => ?_, fun i hi => ?_, fun i q t q' t' h1 h2 => ?_, fun i q t hi => ⟨(node i q t hi).need, (node i q t hi).ban⟩, fun i q t hi => ?_, fun i q t hi b hb => ?_, fun i q t hi x hx => ?_, fun q hq => ?_, fun x hx => ?_⟩
    · obtain ⟨a, b, e1, e2, h1, h2⟩ := goodq i _ _ hi
      have hlt := (List.getElem?_eq_some_iff.1 hi).1
      exact ⟨by simp only; omega, by omega, by omega⟩
    · simp only at hi
      have hlt : i < l.length := by omega
      obtain ⟨a, b, e1, e2, h1, h2⟩ := goodq i l[i].1 l[i].2 (by rw [List.getElem?_eq_getElem hlt])
      refine ⟨a, b, ?_⟩
      rw [List.getElem?_eq_getElem hlt, ← e1, ← e2]
    · rw [h1] at h2
      simp only [Option.some.injEq, Prod.mk.injEq] at h2
      omega
    · rw [(node i q t hi).inn]
      exact in_bit hA q t
    · obtain ⟨x, h1, h2⟩ := (node i q t hi).to1 _ hb
      rw [turn_nat hA] at h2
      exact ⟨x, h1, h2⟩
    · obtain ⟨j, b, h1, h2, h3⟩ := (node i q t hi).to2 _ hx
      obtain rfl : x = j := by omega
      rw [turn_nat hA] at h3
      obtain ⟨a, _, rfl, _⟩ := goodq _ _ _ h3
      exact ⟨a, h2, h3⟩
    · obtain ⟨x, h1, h2⟩ := i3 q hq
      have h3 := g4 q hq
      refine ⟨x, h1, ?_⟩
      show l[x]? = some ((q.toNat : Int), ((0 : Nat) : Int))
      rw [hr, pre_at h2, Int.toNat_of_nonneg h3.1]
      rfl
    · rcases i4 x hx with h1 | ⟨j, q, rfl, h2, h3⟩
      · simp at h1
      have h4 := g4 q h2
      refine ⟨q, h2, ?_⟩
      show l[((j : Int)).toNat]? = some ((q.toNat : Int), ((0 : Nat) : Int))
      rw [Int.toNat_natCast, hr, pre_at h3, Int.toNat_of_nonneg h4.1]
      rfl
end Go.Proofs.Ytefplklkhcpchaa
