/- What was made so comes out again: plain. Conditions: the bounds that an argument brings along. -/
import Derived.Test.YtefplklkhcpchaaDegNonePlain
namespace Go.Proofs.Ytefplklkhcpchaa

/-- so many pairs, each its own number -/
def idP (m : Nat) : List PR := (List.range m).map fun j => (((j : Nat) : Int), (0 : Int))
theorem idP_len (m : Nat) : (idP m).length = m := by simp [idP]
theorem idP_succ (m : Nat) : idP (m + 1) = idP m ++ [((m : Int), 0)] := by simp [idP, List.range_succ]
theorem idP_get {m i : Nat} (h : i < m) : (idP m)[i]? = some ((i : Int), 0) := by simp [idP, h]
theorem idP_mem {m : Nat} {n : Int} : (n, (0 : Int)) ∈ idP m ↔ 0 ≤ n ∧ n < m := by
  simp only [idP, List.mem_map, List.mem_range, Prod.mk.injEq, and_true]
  constructor
  · rintro ⟨j, h1, h2⟩; omega
  · rintro ⟨h1, h2⟩; exact ⟨n.toNat, by omega, by omega⟩
theorem idP_nodup (m : Nat) : (idP m).Nodup := by
  rw [List.Nodup, idP, List.pairwise_map]
  refine List.Pairwise.imp ?_ List.nodup_range
  intro a b h e
  simp at e
  exact h (by omega)
theorem idP_idx {m i : Nat} (h : i < m) : (idP m).idxOf ((i : Int), (0 : Int)) = i := by
  have h2 : (idP m)[i]'(by rw [idP_len]; exact h) = ((i : Int), (0 : Int)) := by
    have := idP_get h
    rw [List.getElem?_eq_getElem (by rw [idP_len]; exact h)] at this
    exact Option.some.inj this
  have h3 := (idP_nodup m).idxOf_getElem i (by rw [idP_len]; exact h)
  rw [h2] at h3
  exact h3
theorem numP_id {m : Nat} {n : Nat} (h : n ≤ m) : numP (idP m) ((n : Int), 0) = (if n < m then idP m else idP (m + 1), n) := by
  unfold numP
  by_cases hlt : n < m
  · rw [if_pos (idP_mem.2 ⟨by omega, by omega⟩), if_pos hlt, idP_idx hlt]
  · rw [if_neg (fun hm => by have := idP_mem.1 hm; omega), if_neg hlt, idP_succ, idP_len, show n = m by omega]

/-- what the numbers of a row are when they are numbered again -/
structure RowInv (L0 : Nat) (st : List PR × List Int) : Prop where
  lt : ∀ n ∈ st.2, 0 ≤ n ∧ n < (st.1.length : Int)
  nd : st.2.Nodup
  ge : L0 ≤ st.1.length
  again : rowP 0 st.2 (idP L0, []) = (idP st.1.length, st.2)
theorem rowP_app (t : Int) (xs : List Int) (q : Int) (s : List PR × List Int) : rowP t (xs ++ [q]) s = rowStep t (rowP t xs s) q := by
  unfold rowP
  rw [List.foldl_append]
  rfl
theorem RowInv.step {L0 : Nat} {t : Int} {st : List PR × List Int} (h : RowInv L0 st) (q : Int) : RowInv L0 (rowStep t st q) := by
  obtain ⟨l, out⟩ := st
  obtain ⟨h1, h2, h3, h4⟩ := h
  simp only at h1 h2 h3 h4
  unfold rowStep
  have hl := numP_len l (q, t)
  have hnew : (numP l (q, t)).1 = l ∧ (numP l (q, t)).2 < l.length ∨ (numP l (q, t)).1.length = l.length + 1 ∧ (numP l (q, t)).2 = l.length := by
    unfold numP
    by_cases hm : (q, t) ∈ l
    · rw [if_pos hm]; exact .inl ⟨rfl, List.idxOf_lt_length_iff.2 hm⟩
    · rw [if_neg hm]; exact .inr ⟨by simp, rfl⟩
  generalize numP l (q, t) = r at hl hnew
  obtain ⟨l1, n⟩ := r
  simp only at hl hnew ⊢
  unfold putP
  by_cases hin : (n : Int) ∈ out
  · rw [if_pos hin]
    have hlt := h1 _ hin
    have he : l1 = l := by
      rcases hnew with ⟨e, _⟩ | ⟨_, e⟩
      · exact e
      · omega
    subst he
    exact ⟨h1, h2, h3, h4⟩
  · rw [if_neg hin]
    refine ⟨fun x hx => ?_, ?_, by simp only; omega, ?_⟩
    · simp only at hx ⊢
      rcases List.mem_append.1 hx with h | h
      · have := h1 x h; omega
      · simp at h; subst h; omega
    · rw [List.nodup_append]
      refine ⟨h2, by simp, fun a ha b hb => ?_⟩
      simp at hb
      subst hb
      exact fun e => hin (e ▸ ha)
    · simp only
      rw [rowP_app, h4]
      unfold rowStep
      simp only
      have hn : n ≤ l.length := by omega
      rw [numP_id hn]
      simp only
      unfold putP
      rw [if_neg hin]
      rcases hnew with ⟨e, hlt⟩ | ⟨e, e2⟩
      · rw [if_pos hlt, e]
      · rw [if_neg (by omega), e]
theorem RowInv.row {L0 : Nat} {t : Int} : ∀ (xs : List Int) {st : List PR × List Int}, RowInv L0 st → RowInv L0 (rowP t xs st)
  | [], _, h => h
  | q :: xs, st, h => RowInv.row xs (h.step (t := t) q)
theorem RowInv.start (l : List PR) : RowInv l.length (l, []) := ⟨by simp, by simp, Nat.le_refl _, rfl⟩

theorem inP_01 (A : AU) (p : PR) : inP A p = 1 ∨ inP A p = 0 := by
  unfold inP
  by_cases h : A.sets = 0 ∨ (p.2 = 0 ∧ bitN (nodeAt A p.1).inn 0 = true)
  · rw [if_pos h]; exact .inl rfl
  · rw [if_neg h]; exact .inr rfl
/-- a node again -/
theorem node_again {A : AU} {l : List PR} {p : PR} {ini : List Int} {ns : List AN} {i : Nat} (hi : i < ns.length) (hy : ns[i] = (nodeP A l p).2) :
    nodeP ⟨1, ini, ns⟩ (idP l.length) ((i : Int), 0) = (idP (nodeP A l p).1.length, (nodeP A l p).2) := by
  have hg := nodeAt_get (A := ⟨1, ini, ns⟩) (i := i) hi
  simp only at hg
  rw [hy] at hg
  have hT : turnP ⟨1, ini, ns⟩ ((i : Int), 0) = 0 := by
    unfold turnP
    by_cases h : 0 < (1 : Int) ∧ bitN (nodeAt ⟨1, ini, ns⟩ (i : Int)).inn 0 = true
    · rw [if_pos h]
      show ((0 : Int) + 1) % 1 = 0
      decide
    · rw [if_neg h]
  have hI : inP ⟨1, ini, ns⟩ ((i : Int), 0) = (nodeP A l p).2.inn := by
    have h01 := inP_01 A p
    have e : (nodeP A l p).2.inn = inP A p := rfl
    rw [e]
    unfold inP
    simp only [hg, e]
    rcases h01 with h | h
    · have hb : bitN (inP A p) 0 = true := by rw [h]; rfl
      rw [if_pos (.inr ⟨trivial, hb⟩)]
      exact h.symm
    · have hb : bitN (inP A p) 0 = false := by rw [h]; rfl
      rw [if_neg (by rw [hb]; simp)]
      exact h.symm
  have hinv := RowInv.row (t := turnP A p) (nodeAt A p.1).to (RowInv.start l)
  have hr := hinv.again
  unfold nodeP at hg ⊢
  rw [hT, hI, hg]
  simp only
  rw [hr]
  rfl
/-- the loop again -/
theorem loop_again {A : AU} {ini : List Int} : ∀ (f i : Nat) (l : List PR) (out ns : List AN), loopP A f i l out = some ns → out.length = i → i ≤ l.length →
    (∃ r, ns = out ++ r) ∧ loopP ⟨1, ini, ns⟩ f i (idP l.length) out = some ns
  | 0, i, l, out, ns, h, _, _ => by
    simp only [loopP, Option.some.injEq] at h
    subst h
    exact ⟨⟨[], by simp⟩, rfl⟩
  | f + 1, i, l, out, ns, h, ho, hil => by
    unfold loopP at h
    by_cases h1 : 256 < l.length
    · rw [if_pos h1] at h; cases h
    rw [if_neg h1] at h
    by_cases h2 : i < l.length
    · rw [if_pos h2] at h
      have hl2 : l.length ≤ (nodeP A l (l.getD i (0, 0))).1.length := (row_len _ _ (l, ([] : List Int))).2
      obtain ⟨⟨r, hr⟩, ih⟩ := loop_again (ini := ini) f (i + 1) _ _ ns h (by simp [ho]) (by omega)
      have hi : i < ns.length := by rw [hr]; simp [ho]
      have hy : ns[i] = (nodeP A l (l.getD i (0, 0))).2 := by
        simp only [hr, List.append_assoc]
        rw [List.getElem_append_right (by omega)]
        simp [ho]
      refine ⟨⟨(nodeP A l (l.getD i (0, 0))).2 :: r, by rw [hr]; simp⟩, ?_⟩
      unfold loopP
      rw [idP_len, if_neg h1, if_pos h2]
      have hget : (idP l.length).getD i (0, 0) = ((i : Int), 0) := by rw [List.getD_eq_getElem?_getD, idP_get h2]; rfl
      rw [hget, node_again hi hy]
      exact ih
    · rw [if_neg h2] at h
      simp only [Option.some.injEq] at h
      subst h
      refine ⟨⟨[], by simp⟩, ?_⟩
      unfold loopP
      rw [idP_len, if_neg h1, if_neg h2]

/-- what is known of what was made -/
structure Made (need ban : Nat → Prop) (ns : List AN) (ini : List Int) : Prop where
  len : ns.length ≤ 256
  ini : ∀ q ∈ ini, 0 ≤ q ∧ q < (ns.length : Int)
  inn : ∀ x ∈ ns, x.inn = 1 ∨ x.inn = 0
  to : ∀ x ∈ ns, ∀ q ∈ x.to, 0 ≤ q ∧ q < (ns.length : Int)
  nd : ∀ x ∈ ns, x.to.Nodup
  need : ∀ x ∈ ns, need x.need ∧ ban x.ban
theorem loop_made {A : AU} {s : Nat} (hA : A.sets = (s : Int)) (hc : chk A = 0) {K : Nat → Prop} (hK : ∀ x ∈ A.nodes, K x.need ∧ K x.ban) : ∀ (f i : Nat) (l : List PR) (out ns : List AN), loopP A f i l out = some ns → out.length = i → i ≤ l.length → i ≤ 256 → f + i = 258 → (∀ p ∈ l, goodP A.nodes.length s p) →
    (∀ x ∈ out, (x.inn = 1 ∨ x.inn = 0) ∧ (∀ q ∈ x.to, 0 ≤ q ∧ q < (l.length : Int)) ∧ x.to.Nodup ∧ K x.need ∧ K x.ban) →
    ns.length ≤ 256 ∧ l.length ≤ ns.length ∧ ∀ x ∈ ns, (x.inn = 1 ∨ x.inn = 0) ∧ (∀ q ∈ x.to, 0 ≤ q ∧ q < (ns.length : Int)) ∧ x.to.Nodup ∧ K x.need ∧ K x.ban
  | 0, i, l, out, ns, h, ho, hil, h256, hf, hg, hx => by omega
  | f + 1, i, l, out, ns, h, ho, hil, h256, hf, hg, hx => by
    unfold loopP at h
    by_cases h1 : 256 < l.length
    · rw [if_pos h1] at h; cases h
    rw [if_neg h1] at h
    by_cases h2 : i < l.length
    · rw [if_pos h2] at h
      have hp : goodP A.nodes.length s (l.getD i (0, 0)) := by
        rw [List.getD_eq_getElem?_getD, List.getElem?_eq_getElem h2]
        exact hg _ (List.getElem_mem h2)
      have hl2 : l.length ≤ (nodeP A l (l.getD i (0, 0))).1.length := (row_len _ _ (l, ([] : List Int))).2
      have hinv := RowInv.row (t := turnP A (l.getD i (0, 0))) (nodeAt A (l.getD i (0, 0)).1).to (RowInv.start l)
      have hnd : nodeAt A (l.getD i (0, 0)).1 ∈ A.nodes := by
        obtain ⟨j, t, e, hj, _⟩ := hp
        rw [e]
        simp only
        rw [nodeAt_get hj]
        exact List.getElem_mem hj
      have ih := loop_made hA hc hK f (i + 1) _ _ ns h (by simp [ho]) (by omega) (by omega) (by omega) (good_node hA hc hg hp) (fun x hxm => by
        rcases List.mem_append.1 hxm with hm | hm
        · obtain ⟨a1, a2, a3, a4⟩ := hx x hm
          exact ⟨a1, fun q hq => by have := a2 q hq; omega, a3, a4⟩
        · simp only [List.mem_singleton] at hm
          subst hm
          exact ⟨inP_01 A _, hinv.lt, hinv.nd, hK (nodeAt A (l.getD i (0, 0)).1) hnd⟩)
      exact ⟨ih.1, by omega, ih.2.2⟩
    · rw [if_neg h2] at h
      simp only [Option.some.injEq] at h
      subst h
      have e : l.length = out.length := by omega
      rw [← e]
      exact ⟨by omega, Nat.le_refl _, hx⟩

theorem chkN_zero {n s : Nat} : ∀ {l : List AN}, (∀ x ∈ l, (∀ q ∈ x.to, 0 ≤ q ∧ q < (n : Int)) ∧ x.inn / 2 ^ s = 0) → chkN n s l = 0
  | [], _ => rfl
  | x :: l, h => by
    obtain ⟨h1, h2⟩ := h x (by simp)
    show (if x.to.any (outB n) then 10 else if x.inn / 2 ^ s ≠ 0 then 3 else chkN n s l) = 0
    rw [if_neg, if_neg (by omega), chkN_zero (fun y hy => h y (by simp [hy]))]
    rw [List.any_eq_true]
    rintro ⟨q, hq, hb⟩
    have := h1 q hq
    unfold outB at hb
    simp at hb
    omega
theorem any_out {n : Nat} {xs : List Int} (h : ∀ q ∈ xs, 0 ≤ q ∧ q < (n : Int)) : xs.any (outB n) = false := by
  rw [Bool.eq_false_iff]
  intro hb
  rw [List.any_eq_true] at hb
  obtain ⟨q, hq, hb⟩ := hb
  have := h q hq
  unfold outB at hb
  simp at hb
  omega
/-- an automaton of one set that was made so is made again -/
theorem one_again {A : AU} (ok : AuOk A) {B : AU} (h : oneP A = (0, B)) : oneP B = (0, B) ∧ AuOk B ∧ B.init.length ≤ 2000 ∧ ∀ x ∈ B.nodes, x.to.length ≤ 2000 := by
  unfold oneP at h
  by_cases hc : chk A ≠ 0
  · rw [if_pos hc] at h
    simp only [Prod.mk.injEq] at h
    exact absurd h.1 hc
  rw [if_neg hc] at h
  have hc : chk A = 0 := by simpa using hc
  obtain ⟨g1, g2, g3, g4, g5⟩ := chk_good hc
  obtain ⟨s, hs⟩ := Int.eq_ofNat_of_zero_le g2
  have hgood0 : ∀ p ∈ (rowP 0 A.init ([], [])).1, goodP A.nodes.length s p := good_row _ _ (by simp) (fun q hq => by
    obtain ⟨h1, h2⟩ := g4 q hq
    exact ⟨q.toNat, 0, by simp; omega, by omega, by omega⟩)
  have hinv := RowInv.row (t := 0) A.init (RowInv.start [])
  cases hl : loopP A 258 0 (rowP 0 A.init ([], [])).1 [] with
  | none => rw [hl] at h; simp at h
  | some ns =>
    rw [hl] at h
    simp only [Prod.mk.injEq, true_and] at h
    subst h
    obtain ⟨_, h2⟩ := loop_again (ini := (rowP 0 A.init ([], [])).2) 258 0 _ _ ns hl rfl (Nat.zero_le _)
    obtain ⟨m1, m2, m3⟩ := loop_made hs hc (K := fun n => n < 18446744073709551616) (fun x hx => ⟨(ok.nodes x hx).1, (ok.nodes x hx).2.1⟩) 258 0 _ _ ns hl rfl (Nat.zero_le _) (by omega) rfl hgood0 (by simp)
    have hini : ∀ q ∈ (rowP 0 A.init ([], [])).2, 0 ≤ q ∧ q < (ns.length : Int) := fun q hq => by have := hinv.lt q hq; omega
    have hnl : ∀ xs : List Int, xs.Nodup → (∀ q ∈ xs, 0 ≤ q ∧ q < (ns.length : Int)) → xs.length ≤ 256 := fun xs hn hq => by
      have h1 : (xs.map Int.toNat).Nodup := by
        rw [List.Nodup, List.pairwise_map]
        refine List.Pairwise.imp_of_mem ?_ hn
        intro a b ha hb hne e
        have := hq a ha
        have := hq b hb
        exact hne (by omega)
      have := nodup_lt ns.length _ h1 (fun x hx => by
        obtain ⟨q, hqm, rfl⟩ := List.mem_map.1 hx
        have := hq q hqm
        omega)
      rw [List.length_map] at this
      omega
    have hchk : chk ⟨1, (rowP 0 A.init ([], [])).2, ns⟩ = 0 := by
      unfold chk
      simp only
      rw [if_neg (by omega), if_neg (by omega), any_out hini, if_neg (by simp)]
      refine chkN_zero (fun x hx => ⟨(m3 x hx).2.1, ?_⟩)
      rcases (m3 x hx).1 with e | e <;> rw [e] <;> rfl
    refine ⟨?_, ⟨by simp only; omega, fun q hq => by have := hini q hq; omega, by have := hnl _ hinv.nd hini; simp only; omega, by simp only; omega, fun x hx => ?_⟩, by have := hnl _ hinv.nd hini; simp only; omega, fun x hx => by have := hnl _ (m3 x hx).2.2.1 (m3 x hx).2.1; omega⟩
    · unfold oneP
      rw [if_neg (by simp [hchk])]
      have ha := hinv.again
      have e0 : (idP ([] : List PR).length, ([] : List Int)) = ([], []) := rfl
      rw [e0] at ha
      simp only
      rw [ha, h2]
    · obtain ⟨a1, a2, a3, a4, a5⟩ := m3 x hx
      refine ⟨a4, a5, by rcases a1 with e | e <;> rw [e] <;> decide, by have := hnl _ a3 a2; omega, fun q hq => by have := a2 q hq; omega⟩
end Go.Proofs.Ytefplklkhcpchaa
