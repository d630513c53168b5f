/- What is made is small and reached: plain. No conditions. -/
import Derived.Test.YtefplklkhcpchaaDegAgainPlain
import Derived.Test.YtefplklkhcpchaaDegNonePlain
namespace Go.Proofs.Ytefplklkhcpchaa

theorem putP_mem (o : List Int) (n : Nat) : (n : Int) ∈ putP o n := by
  unfold putP
  split
  · assumption
  · simp
theorem putP_sub {o : List Int} {x : Int} (h : x ∈ o) (n : Nat) : x ∈ putP o n := by
  unfold putP
  split
  · exact h
  · simp [h]
theorem row_src {t : Int} {L : Nat} : ∀ (xs : List Int) (st : List PR × List Int), (∀ j : Nat, L ≤ j → j < st.1.length → (j : Int) ∈ st.2) → ∀ j : Nat, L ≤ j → j < (rowP t xs st).1.length → (j : Int) ∈ (rowP t xs st).2
  | [], _, h => h
  | q :: xs, st, h => row_src xs (rowStep t st q) (fun j h1 h2 => by
    show (j : Int) ∈ putP st.2 (numP st.1 (q, t)).2
    have h2' : j < (numP st.1 (q, t)).1.length := h2
    by_cases hm : (q, t) ∈ st.1
    · have e : (numP st.1 (q, t)).1 = st.1 := by unfold numP; rw [if_pos hm]
      rw [e] at h2'
      exact putP_sub (h j h1 h2') _
    · have e : numP st.1 (q, t) = (st.1 ++ [(q, t)], st.1.length) := by unfold numP; rw [if_neg hm]
      rw [e] at h2' ⊢
      simp at h2'
      by_cases hj : j < st.1.length
      · exact putP_sub (h j h1 hj) _
      · obtain rfl : j = st.1.length := by omega
        exact putP_mem _ _)
theorem nodup_sub : ∀ (l1 l2 : List Int), l1.Nodup → (∀ x ∈ l1, x ∈ l2) → l1.length ≤ l2.length
  | [], _, _, _ => Nat.zero_le _
  | x :: l1, l2, h, hs => by
    rw [List.nodup_cons] at h
    have hx : x ∈ l2 := hs x (by simp)
    have h1 := nodup_sub l1 (l2.erase x) h.2 (fun y hy => by
      have hne : y ≠ x := fun e => by subst e; exact h.1 hy
      exact (List.mem_erase_of_ne hne).2 (hs y (by simp [hy])))
    rw [List.length_erase_of_mem hx] at h1
    have h2 : 0 < l2.length := List.length_pos_of_mem hx
    simp only [List.length_cons]
    omega
/-- there are no more good pairs than nodes times sets -/
theorem good_len {n s : Nat} {l : List PR} (hn : l.Nodup) (hg : ∀ p ∈ l, goodP n s p) : l.length ≤ n * max s 1 := by
  have h1 : (l.map fun p => p.1.toNat * max s 1 + p.2.toNat).Nodup := by
    rw [List.Nodup, List.pairwise_map]
    refine List.Pairwise.imp_of_mem ?_ hn
    intro a b ha hb hne e
    obtain ⟨i, t, rfl, h1, h2⟩ := hg a ha
    obtain ⟨j, u, rfl, h3, h4⟩ := hg b hb
    simp only [Int.toNat_natCast] at e
    have e1 : (i * max s 1 + t) / max s 1 = (j * max s 1 + u) / max s 1 := by rw [e]
    have hp : 0 < max s 1 := by omega
    rw [Nat.mul_comm i, Nat.mul_comm j, Nat.mul_add_div hp, Nat.mul_add_div hp, Nat.div_eq_of_lt h2, Nat.div_eq_of_lt h4] at e1
    obtain rfl : i = j := by omega
    obtain rfl : t = u := by omega
    exact hne rfl
  have := nodup_lt (n * max s 1) _ h1 (fun x hx => by
    obtain ⟨p, hp, rfl⟩ := List.mem_map.1 hx
    obtain ⟨i, t, rfl, h2, h3⟩ := hg p hp
    simp only [Int.toNat_natCast]
    have : (i + 1) * max s 1 ≤ n * max s 1 := Nat.mul_le_mul_right _ h2
    rw [Nat.add_mul] at this
    omega)
  simpa using this
def ANZ : AN := ⟨0, 0, 0, []⟩
theorem loop_small {A : AU} {s : Nat} (hA : A.sets = (s : Int)) (hc : chk A = 0) : ∀ (f i : Nat) (l : List PR) (out ns : List AN), loopP A f i l out = some ns → out.length = i → i ≤ l.length → i ≤ 256 → f + i = 258 → l.Nodup → (∀ p ∈ l, goodP A.nodes.length s p) →
    (∃ r, ns = out ++ r) ∧ (∀ j : Nat, l.length ≤ j → j < ns.length → ∃ i', i' < j ∧ (j : Int) ∈ (ns.getD i' ANZ).to) ∧ l.length ≤ ns.length ∧ ns.length ≤ A.nodes.length * max s 1
  | 0, i, l, out, ns, h, ho, hil, h256, hf, hn, hg => by omega
  | f + 1, i, l, out, ns, h, ho, hil, h256, hf, hn, hg => by
    unfold loopP at h
    by_cases h1 : 256 < l.length
    · rw [if_pos h1] at h; cases h
    rw [if_neg h1] at h
    by_cases h2 : i < l.length
    · rw [if_pos h2] at h
      have hp : goodP A.nodes.length s (l.getD i (0, 0)) := by
        rw [List.getD_eq_getElem?_getD, List.getElem?_eq_getElem h2]
        exact hg _ (List.getElem_mem h2)
      generalize l.getD i (0, 0) = p at h hp
      have hl2 : l.length ≤ (nodeP A l p).1.length := (row_len _ _ (l, ([] : List Int))).2
      have hsrc : ∀ j : Nat, l.length ≤ j → j < (nodeP A l p).1.length → (j : Int) ∈ (nodeP A l p).2.to := row_src (L := l.length) (nodeAt A p.1).to (l, []) (fun j h3 h4 => by simp only at h4; omega)
      obtain ⟨⟨r, hr⟩, h3, h4, h5⟩ := loop_small hA hc f (i + 1) _ _ ns h (by simp [ho]) (by omega) (by omega) (by omega) (row_nodup _ _ _ hn) (good_node hA hc hg hp)
      refine ⟨⟨(nodeP A l p).2 :: r, by rw [hr]; simp⟩, fun j h6 h7 => ?_, by omega, h5⟩
      by_cases h8 : j < (nodeP A l p).1.length
      · refine ⟨i, by omega, ?_⟩
        have e : ns.getD i ANZ = (nodeP A l p).2 := by
          rw [hr, List.getD_eq_getElem?_getD, List.append_assoc, List.getElem?_append_right (by omega), ho, Nat.sub_self]
          rfl
        rw [e]
        exact hsrc j h6 h8
      · exact h3 j (by omega) h7
    · rw [if_neg h2] at h
      simp only [Option.some.injEq] at h
      subst h
      exact ⟨⟨[], by simp⟩, fun j h3 h4 => by omega, by omega, by have := good_len hn hg; omega⟩

/-- what the law asks of what is made -/
structure Small (A B : AU) (s : Nat) : Prop where
  sets : B.sets = 1
  len : B.nodes.length ≤ A.nodes.length * max s 1
  chk : chk B = 0
  inn : ∀ x ∈ B.nodes, x.inn ≤ 1
  src : ∀ j : Nat, j < B.nodes.length → (j : Int) ∈ B.init ∨ ∃ i, i < j ∧ (j : Int) ∈ (B.nodes.getD i ANZ).to
theorem one_small2 {A : AU} (ok : AuOk A) {s : Nat} (hA : A.sets = (s : Int)) {B : AU} (h : oneP A = (0, B)) : Small A B s ∧ AuOk B ∧ B.init.length ≤ 2000 ∧ ∀ x ∈ B.nodes, x.to.length ≤ 2000 := by
  obtain ⟨hB, okB, hl1, hl2⟩ := one_again ok h
  have hcB : Go.Proofs.Ytefplklkhcpchaa.chk B = 0 := by
    have := congrArg Prod.fst hB
    unfold oneP at this
    by_cases h : Go.Proofs.Ytefplklkhcpchaa.chk B ≠ 0
    · rw [if_pos h] at this; exact this
    · simpa using h
  refine ⟨?_, okB, hl1, hl2⟩
  unfold oneP at h
  by_cases hc : Go.Proofs.Ytefplklkhcpchaa.chk A ≠ 0
  · rw [if_pos hc] at h
    simp only [Prod.mk.injEq] at h
    exact absurd h.1 hc
  rw [if_neg hc] at h
  have hc : Go.Proofs.Ytefplklkhcpchaa.chk A = 0 := by simpa using hc
  obtain ⟨_, _, _, g4, _⟩ := chk_good hc
  have hg0 : ∀ p ∈ (rowP 0 A.init ([], [])).1, goodP A.nodes.length s p := good_row A.init ([], []) (by simp) (fun q hq => by
    obtain ⟨h1, h2⟩ := g4 q hq
    exact ⟨q.toNat, 0, by simp; omega, by omega, by omega⟩)
  cases hl : loopP A 258 0 (rowP 0 A.init ([], [])).1 [] with
  | none =>
    rw [hl] at h
    simp at h
  | some ns =>
    rw [hl] at h
    simp only [Prod.mk.injEq, true_and] at h
    subst h
    obtain ⟨_, h1, h2, h3⟩ := loop_small hA hc 258 0 _ [] ns hl rfl (Nat.zero_le _) (by omega) rfl (row_nodup _ _ _ (by simp)) hg0
    obtain ⟨_, _, h6⟩ := loop_made hA hc (K := fun _ => True) (fun _ _ => ⟨trivial, trivial⟩) 258 0 _ [] ns hl rfl (Nat.zero_le _) (by omega) rfl hg0 (by simp)
    refine ⟨rfl, h3, hcB, fun x hx => by have := (h6 x hx).1; omega, fun j hj => ?_⟩
    by_cases h7 : j < (rowP 0 A.init ([], [])).1.length
    · exact .inl (row_src (L := 0) A.init ([], []) (fun j _ h8 => by simp at h8) j (Nat.zero_le _) h7)
    · exact .inr (h1 j (by omega) hj)

/-! going through all nodes -/
def toAt (ns : List AN) (x : Int) : List Int := (ns.getD x.toNat ANZ).to
/-- what is still to be put behind -/
def mu (ns : List AN) (has : List Int) : Nat → Nat
  | 0 => 0
  | m + 1 => mu ns has m + (if (m : Int) ∈ has then 0 else (toAt ns m).length)
theorem mu_new {ns : List AN} {has : List Int} {x : Nat} (hx : (x : Int) ∉ has) : ∀ m, mu ns (has ++ [(x : Int)]) m + (if x < m then (toAt ns x).length else 0) = mu ns has m
  | 0 => rfl
  | m + 1 => by
    have ih := mu_new (ns := ns) hx m
    simp only [mu]
    by_cases h : m = x
    · subst h
      rw [if_neg (by omega)] at ih
      rw [if_pos (by simp), if_pos (by omega), if_neg hx]
      omega
    · have e : ((m : Int) ∈ has ++ [(x : Int)]) ↔ (m : Int) ∈ has := by
        simp only [List.mem_append, List.mem_singleton]
        constructor
        · rintro (h1 | h1)
          · exact h1
          · omega
        · exact .inl
      by_cases h2 : (m : Int) ∈ has
      · rw [if_pos (e.2 h2), if_pos h2]
        by_cases h3 : x < m
        · rw [if_pos h3] at ih; rw [if_pos (by omega)]; omega
        · rw [if_neg h3] at ih; rw [if_neg (by omega)]; omega
      · rw [if_neg (fun hh => h2 (e.1 hh)), if_neg h2]
        by_cases h3 : x < m
        · rw [if_pos h3] at ih; rw [if_pos (by omega)]; omega
        · rw [if_neg h3] at ih; rw [if_neg (by omega)]; omega
theorem mu_le {ns : List AN} (h : ∀ x ∈ ns, x.to.length ≤ 2000) (has : List Int) : ∀ m, mu ns has m ≤ m * 2000
  | 0 => Nat.le_refl _
  | m + 1 => by
    have ih := mu_le h has m
    have h2 : (toAt ns m).length ≤ 2000 := by
      unfold toAt
      rw [List.getD_eq_getElem?_getD]
      by_cases hm : m < ns.length
      · rw [Int.toNat_natCast, List.getElem?_eq_getElem hm]
        exact h _ (List.getElem_mem hm)
      · rw [Int.toNat_natCast, List.getElem?_eq_none (by omega)]
        simp [ANZ]
    have e : (m + 1) * 2000 = m * 2000 + 2000 := by omega
    rw [e]
    show mu ns has m + (if (m : Int) ∈ has then 0 else (toAt ns m).length) ≤ _
    have h4 : (if (m : Int) ∈ has then 0 else (toAt ns m).length) ≤ 2000 := by
      by_cases h3 : (m : Int) ∈ has
      · rw [if_pos h3]; exact Nat.zero_le _
      · rw [if_neg h3]; exact h2
    exact Nat.add_le_add ih h4
structure Inv (ns : List AN) (ini has todo : List Int) : Prop where
  nd : has.Nodup
  hlt : ∀ x ∈ has, 0 ≤ x ∧ x < (ns.length : Int)
  tlt : ∀ x ∈ todo, 0 ≤ x ∧ x < (ns.length : Int)
  ini : ∀ x ∈ ini, x ∈ has ∨ x ∈ todo
  cl : ∀ x ∈ has, ∀ y ∈ toAt ns x, y ∈ has ∨ y ∈ todo
section
variable {ns : List AN} {ini has todo : List Int} {x : Int}
theorem Inv.seen (h : Inv ns ini has (x :: todo)) (hx : x ∈ has) : Inv ns ini has todo :=
  ⟨h.nd, h.hlt, fun y hy => h.tlt y (by simp [hy]), fun y hy => by
    rcases h.ini y hy with h1 | h1
    · exact .inl h1
    · rcases List.mem_cons.1 h1 with rfl | h2
      · exact .inl hx
      · exact .inr h2, fun z hz y hy => by
    rcases h.cl z hz y hy with h1 | h1
    · exact .inl h1
    · rcases List.mem_cons.1 h1 with rfl | h2
      · exact .inl hx
      · exact .inr h2⟩
theorem Inv.new (h : Inv ns ini has (x :: todo)) (hx : x ∉ has) (hto : ∀ y ∈ toAt ns x, 0 ≤ y ∧ y < (ns.length : Int)) : Inv ns ini (has ++ [x]) (todo ++ toAt ns x) := by
  have move : ∀ y, y ∈ has ∨ y ∈ x :: todo → y ∈ has ++ [x] ∨ y ∈ todo ++ toAt ns x := by
    intro y hy
    rcases hy with h1 | h1
    · exact .inl (by simp [h1])
    · rcases List.mem_cons.1 h1 with rfl | h2
      · exact .inl (by simp)
      · exact .inr (by simp [h2])
  refine ⟨?_, ?_, ?_, fun y hy => move y (h.ini y hy), ?_⟩
  · rw [List.nodup_append]
    refine ⟨h.nd, by simp, fun a ha b hb e => ?_⟩
    simp at hb
    subst hb
    exact hx (e ▸ ha)
  · intro y hy
    rcases List.mem_append.1 hy with h1 | h1
    · exact h.hlt y h1
    · simp at h1
      subst h1
      exact h.tlt _ (by simp)
  · intro y hy
    rcases List.mem_append.1 hy with h1 | h1
    · exact h.tlt y (by simp [h1])
    · exact hto y h1
  · intro z hz y hy
    rcases List.mem_append.1 hz with h1 | h1
    · exact move y (h.cl z h1 y hy)
    · simp at h1
      subst h1
      exact .inr (by simp [hy])
theorem Inv.len (h : Inv ns ini has todo) : has.length ≤ ns.length := by
  have h1 := nodup_sub has ((List.range ns.length).map fun j : Nat => (j : Int)) h.nd (fun x hx => by
    obtain ⟨h2, h3⟩ := h.hlt x hx
    exact List.mem_map.2 ⟨x.toNat, by simp; omega, by omega⟩)
  simpa using h1
theorem toAt_get {ns : List AN} {j : Nat} (hj : j < ns.length) : toAt ns (j : Int) = ns[j].to := by
  unfold toAt
  rw [Int.toNat_natCast, List.getD_eq_getElem?_getD, List.getElem?_eq_getElem hj]
  rfl
theorem Inv.all (h : Inv ns ini has []) (hsrc : ∀ j : Nat, j < ns.length → (j : Int) ∈ ini ∨ ∃ i, i < j ∧ (j : Int) ∈ (ns.getD i ANZ).to) : has.length = ns.length := by
  have hall : ∀ j : Nat, j < ns.length → (j : Int) ∈ has := by
    intro j
    induction j using Nat.strongRecOn with
    | ind j ih =>
      intro hj
      rcases hsrc j hj with h1 | ⟨i, h1, h2⟩
      · rcases h.ini _ h1 with h3 | h3
        · exact h3
        · simp at h3
      · have h3 := ih i h1 (by omega)
        rcases h.cl _ h3 (j : Int) (by unfold toAt; rw [Int.toNat_natCast]; exact h2) with h4 | h4
        · exact h4
        · simp at h4
  have h1 := nodup_sub has ((List.range ns.length).map fun j : Nat => (j : Int)) h.nd (fun x hx => by
    obtain ⟨h2, h3⟩ := h.hlt x hx
    exact List.mem_map.2 ⟨x.toNat, by simp; omega, by omega⟩)
  have h2 := nodup_sub ((List.range ns.length).map fun j : Nat => (j : Int)) has (by
    rw [List.Nodup, List.pairwise_map]
    exact List.nodup_range.imp (fun hne e => hne (by omega))) (fun x hx => by
    obtain ⟨j, hj, rfl⟩ := List.mem_map.1 hx
    exact hall j (by simpa using hj))
  simp at h1 h2
  omega
end
end Go.Proofs.Ytefplklkhcpchaa
