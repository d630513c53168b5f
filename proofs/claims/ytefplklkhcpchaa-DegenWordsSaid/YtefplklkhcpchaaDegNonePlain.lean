/- With no sets: plain. No conditions. -/
import Derived.Test.YtefplklkhcpchaaDegOne
namespace Go.Proofs.Ytefplklkhcpchaa

theorem nodup_lt : ∀ (n : Nat) (l : List Nat), l.Nodup → (∀ x ∈ l, x < n) → l.length ≤ n
  | 0, l, _, h => by
    cases l with
    | nil => simp
    | cons x l => have := h x (by simp); omega
  | n + 1, l, hn, h => by
    by_cases hm : n ∈ l
    · have ih := nodup_lt n (l.erase n) (hn.erase n) (fun x hx => by
        rw [hn.mem_erase_iff] at hx
        have := h x hx.2
        have := hx.1
        omega)
      rw [List.length_erase_of_mem hm] at ih
      omega
    · have := nodup_lt n l hn (fun x hx => by
        have h1 := h x hx
        have : x ≠ n := fun e => hm (e ▸ hx)
        omega)
      omega
theorem row_nodup (t : Int) : ∀ (xs : List Int) (st : List PR × List Int), st.1.Nodup → (rowP t xs st).1.Nodup
  | [], _, h => h
  | q :: xs, st, h => row_nodup t xs (rowStep t st q) (numP_nodup h _)
theorem none_len {n : Nat} {l : List PR} (hn : l.Nodup) (hg : ∀ p ∈ l, goodP n 0 p) : l.length ≤ n := by
  have h1 : (l.map fun p => p.1.toNat).Nodup := by
    rw [List.Nodup, List.pairwise_map]
    refine List.Pairwise.imp_of_mem ?_ hn
    intro a b ha hb hne e
    obtain ⟨i, t, rfl, h1, h2⟩ := hg a ha
    obtain ⟨j, u, rfl, h3, h4⟩ := hg b hb
    simp only [Int.toNat_natCast] at e
    subst e
    exact hne (by rw [show t = u by omega])
  have := nodup_lt n _ h1 (fun x hx => by
    obtain ⟨p, hp, rfl⟩ := List.mem_map.1 hx
    obtain ⟨i, t, rfl, h2, h3⟩ := hg p hp
    simpa using h2)
  simpa using this
theorem loop_none {A : AU} (hA : A.sets = 0) (hc : chk A = 0) : ∀ (f i : Nat) (l : List PR) (out : List AN), l.Nodup → (∀ p ∈ l, goodP A.nodes.length 0 p) → (∀ x ∈ out, x.inn = 1) → out.length = i → i ≤ l.length →
    ∃ ns, loopP A f i l out = some ns ∧ (∀ x ∈ ns, x.inn = 1) ∧ ns.length ≤ A.nodes.length
  | 0, i, l, out, hn, hg, ho, hl, hil => ⟨out, rfl, ho, by have := none_len hn hg; omega⟩
  | f + 1, i, l, out, hn, hg, ho, hl, hil => by
    have hlen := none_len hn hg
    have h256 := (chk_good hc).1
    unfold loopP
    rw [if_neg (by omega)]
    by_cases hlt : i < l.length
    · rw [if_pos hlt]
      have hp : goodP A.nodes.length 0 (l.getD i (0, 0)) := by
        rw [List.getD_eq_getElem?_getD, List.getElem?_eq_getElem hlt]
        exact hg _ (List.getElem_mem hlt)
      have h1 : (nodeP A l (l.getD i (0, 0))).2.inn = 1 := by
        show inP A _ = 1
        unfold inP
        rw [if_pos (.inl hA)]
      refine loop_none hA hc f (i + 1) _ _ (row_nodup _ _ _ hn) (good_node hA hc hg hp) (fun x hx => ?_) (by simp [hl]) ?_
      · rcases List.mem_append.1 hx with h | h
        · exact ho x h
        · simp at h; subst h; exact h1
      · have := (row_len (turnP A (l.getD i (0, 0))) (nodeAt A (l.getD i (0, 0)).1).to (l, [])).2
        have e : (nodeP A l (l.getD i (0, 0))).1 = (rowP (turnP A (l.getD i (0, 0))) (nodeAt A (l.getD i (0, 0)).1).to (l, [])).1 := rfl
        rw [e]
        have e2 : ((l, ([] : List Int))).1.length = l.length := rfl
        omega
    · rw [if_neg hlt]
      exact ⟨out, rfl, ho, by omega⟩
theorem one_none {A : AU} (hA : A.sets = 0) (hc : chk A = 0) : ∃ ini ns, oneP A = (0, ⟨1, ini, ns⟩) ∧ (∀ x ∈ ns, x.inn = 1) ∧ ns.length ≤ A.nodes.length := by
  obtain ⟨_, _, _, g4, _⟩ := chk_good hc
  obtain ⟨ns, h1, h2, h3⟩ := loop_none hA hc 258 0 (rowP 0 A.init ([], [])).1 [] (row_nodup _ _ _ (by simp)) (good_row _ _ (by simp) (fun q hq => by
    obtain ⟨h1, h2⟩ := g4 q hq
    exact ⟨q.toNat, 0, by simp; omega, by omega, by omega⟩)) (by simp) rfl (Nat.zero_le _)
  refine ⟨(rowP 0 A.init ([], [])).2, ns, ?_, h2, h3⟩
  unfold oneP
  rw [if_neg (by simp [hc]), h1]
/-- the example -/
def exA : AU := ⟨2, [0], [⟨0, 0, 3, [0]⟩]⟩
theorem one_ex : oneP exA = (0, ⟨1, [0], [⟨0, 0, 1, [1]⟩, ⟨0, 0, 0, [0]⟩]⟩) := by decide
end Go.Proofs.Ytefplklkhcpchaa
