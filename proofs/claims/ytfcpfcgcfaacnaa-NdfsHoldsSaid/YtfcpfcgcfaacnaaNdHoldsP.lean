/- What a search that is over says, against the whole product: plain. No conditions. -/
import Derived.Test.YtfcpfcgcfaacnaaNdSrc
import Derived.Test.YtfcpfcgcfaacnaaPrSomeP
namespace Go.Proofs.Ytfcpfcgcfaacnaa

section
variable {nx : PP → List PP} {inq : PP → Bool} {first : List PP}
/-- from one place of a linked list to a later one -/
theorem plus_along {L : PP → Prop} {l : List PP} (hl : Linked nx l) (hL : ∀ x ∈ l, L x) : ∀ (d i : Nat) (x y : PP), l[i]? = some x → l[i + d + 1]? = some y → Plus (fun x y => y ∈ nx x) L x y
  | 0, i, x, y, hx, hy => .one (hl i x y hx hy) (hL y (List.mem_of_getElem? hy))
  | d + 1, i, x, y, hx, hy => by
    have hj := get_le hy
    have hz : l[i + d + 1]? = some (l[i + d + 1]'(by omega)) := List.getElem?_eq_getElem (by omega)
    exact .more (plus_along hl hL d i x _ hx hz) (hl (i + d + 1) _ y hz hy) (hL y (List.mem_of_getElem? hy))
/-- what is told as a lasso is good -/
theorem lasso_good {stem loop : List PP} (h : LassoP nx inq first stem loop) : ∃ L : PP → Prop, GoodQ nx [inq] L ∧ ∃ x ∈ first, L x := by
  obtain ⟨z, hz, hin⟩ := h.inn
  obtain ⟨k, hk⟩ := List.getElem?_of_mem hz
  have hkl := get_le hk
  have hlen : (stem ++ loop).length = stem.length + loop.length := List.length_append
  obtain ⟨lst, hlast⟩ : ∃ lst, (stem ++ loop)[stem.length + loop.length - 1]? = some lst := ⟨_, List.getElem?_eq_getElem (by omega)⟩
  obtain ⟨c0, h0⟩ : ∃ c0, loop[0]? = some c0 := ⟨_, List.getElem?_eq_getElem (by omega)⟩
  have hback : c0 ∈ nx lst := by
    refine h.back _ _ ?_ ?_
    · rw [List.getLast?_eq_getElem?, hlen]; exact hlast
    · rw [List.head?_eq_getElem?]; exact h0
  have hA0 : (stem ++ loop)[stem.length]? = some c0 := by
    rw [List.getElem?_append_right (Nat.le_refl _), Nat.sub_self]; exact h0
  have hAk : (stem ++ loop)[stem.length + k]? = some z := by
    rw [List.getElem?_append_right (by omega), Nat.add_sub_cancel_left]; exact hk
  have hAll : ∀ x ∈ stem ++ loop, (fun x => x ∈ stem ++ loop) x := fun x hx => hx
  have toLast : ∀ x ∈ stem ++ loop, Plus (fun x y => y ∈ nx x) (fun x => x ∈ stem ++ loop) x c0 := fun x hx => by
    obtain ⟨i, hi⟩ := List.getElem?_of_mem hx
    have hil := get_le hi
    have hm0 : c0 ∈ stem ++ loop := List.mem_of_getElem? hA0
    by_cases e : i = stem.length + loop.length - 1
    · subst e
      rw [hlast] at hi
      cases hi
      exact .one hback hm0
    · obtain ⟨d, hd⟩ : ∃ d, stem.length + loop.length - 1 = i + d + 1 := ⟨stem.length + loop.length - 1 - i - 1, by omega⟩
      have hlast' := hlast
      rw [hd] at hlast'
      exact .more (plus_along h.ln hAll d i x _ hi hlast') hback hm0
  have toIn : ∀ x ∈ stem ++ loop, Plus (fun x y => y ∈ nx x) (fun x => x ∈ stem ++ loop) x z := fun x hx => by
    have h1 := toLast x hx
    cases k with
    | zero =>
      rw [h0] at hk
      cases hk
      exact h1
    | succ d => exact h1.trans (plus_along h.ln hAll d stem.length _ z hA0 hAk)
  refine ⟨fun x => x ∈ stem ++ loop, fun x hx => ⟨⟨z, toIn x hx⟩, fun p hp => ?_⟩, ?_⟩
  · rw [List.mem_singleton] at hp
    subst hp
    exact ⟨z, toIn x hx, hin⟩
  · have hhead : (stem ++ loop)[0]? = some ((stem ++ loop)[0]'(by omega)) := List.getElem?_eq_getElem (by omega)
    exact ⟨_, h.hd _ (by rw [List.head?_eq_getElem?]; exact hhead), List.getElem_mem _⟩
theorem plus_shut {S L : PP → Prop} (hS : ∀ y, S y → ∀ z ∈ nx y, S z) {x y : PP} (h0 : ∀ y ∈ nx x, S y) (h : Plus (fun x y => y ∈ nx x) L x y) : S y := by
  induction h with
  | one a _ => exact h0 _ a
  | more _ a _ ih => exact hS _ ih _ a
/-- where no pair that is In leads back to itself nothing is good -/
theorem none_good {R : List PP} (h1 : ∀ x ∈ first, x ∈ R) (h2 : ∀ x ∈ R, ∀ y ∈ nx x, y ∈ R) (h3 : ∀ x ∈ R, inq x = true → NoCyc nx x) : ¬ ∃ L : PP → Prop, GoodQ nx [inq] L ∧ ∃ x ∈ first, L x := by
  rintro ⟨L, hG, x0, hx0, hL0⟩
  have inR : ∀ x y, x ∈ R → Plus (fun x y => y ∈ nx x) L x y → y ∈ R := fun x y hx h => plus_shut (S := fun z => z ∈ R) h2 (h2 x hx) h
  have noBack : ∀ y, y ∈ R → inq y = true → ¬ Plus (fun x y => y ∈ nx x) L y y := fun y hy hi h => by
    obtain ⟨S, s1, s2, s3⟩ := h3 y hy hi
    exact s3 (plus_shut s2 s1 h)
  have key : ∀ n : Nat, ∃ (l : List PP) (y : PP), l.length = n ∧ l.Nodup ∧ (∀ z ∈ l, z ∈ R ∧ Plus (fun x y => y ∈ nx x) L z y) ∧ y ∈ R ∧ inq y = true ∧ L y := by
    intro n
    induction n with
    | zero =>
      obtain ⟨y, hy, hi⟩ := (hG x0 hL0).2 inq (List.mem_singleton.2 rfl)
      exact ⟨[], y, rfl, List.nodup_nil, by simp, inR x0 y (h1 x0 hx0) hy, hi, hy.last⟩
    | succ n ih =>
      obtain ⟨l, y, q1, q2, q3, q4, q5, q6⟩ := ih
      obtain ⟨y', hy, hi⟩ := (hG y q6).2 inq (List.mem_singleton.2 rfl)
      refine ⟨y :: l, y', by rw [List.length_cons, q1], List.nodup_cons.2 ⟨fun hm => noBack y q4 q5 (q3 y hm).2, q2⟩, fun z hz => ?_, inR y y' q4 hy, hi, hy.last⟩
      rcases List.mem_cons.1 hz with rfl | hz
      · exact ⟨q4, hy⟩
      · exact ⟨(q3 z hz).1, (q3 z hz).2.trans hy⟩
  obtain ⟨l, _, q1, q2, q3, _⟩ := key (R.length + 1)
  have := nodup_le q2 (fun z hz => (q3 z hz).1)
  omega
end
/-- what the law holds against one another -/
theorem holds_res {G : GR} {sets : List (List Bool)} {A : AU} (lt : Lt G sets A) (h : (wholeP G sets A 400).1 = 0) :
    (((resP G sets A 4000 4000).kind = 2 ∧ SomeP (wholeP G sets A 400).2.1 (wholeP G sets A 400).2.2.es [(wholeP G sets A 400).2.2.ins]) ∨ ((resP G sets A 4000 4000).kind = 1 ∧ ¬ SomeP (wholeP G sets A 400).2.1 (wholeP G sets A 400).2.2.es [(wholeP G sets A 400).2.2.ins])) ∧ (resP G sets A 4000 4000).nodes ≤ (wholeP G sets A 400).2.2.es.length := by
  obtain ⟨hn, W, _⟩ := wholeP_rows h
  obtain ⟨_, i1, i2⟩ := wholeP_ok lt h
  have hins : (wholeP G sets A 400).2.2.ins = (wholeP G sets A 400).2.2.l.map (inP G sets A) := by
    apply List.ext_getElem?
    intro k
    rw [List.getElem?_map]
    by_cases hk : k < (wholeP G sets A 400).2.2.l.length
    · rw [i2 k hk, List.getElem?_eq_getElem hk]; rfl
    · rw [List.getElem?_eq_none (by omega), List.getElem?_eq_none (by omega)]; rfl
  have SQ := someQ W [inP G sets A]
  simp only [List.map_cons, List.map_nil, ← hins] at SQ
  have hres : resP G sets A 4000 4000 = searchP G sets A 4000 4000 := by unfold resP; rw [if_pos hn]
  have U := used_ok lt (sets := sets) (G := G) (A := A) 4000 4000
  rw [hres] at U ⊢
  have rea : ∃ R : List PP, R.Nodup ∧ (searchP G sets A 4000 4000).nodes = R.length ∧ ∀ x ∈ R, Rea (nextP G sets A) (firstP G A) x := by
    rcases search_told (b := ⟨heldP 4000, heldP 4000⟩) (inq := inP G sets A) (nice_of lt hn) (by decide) (first_ok hn) with h | h
    · exact h.rea
    · exact h.rea
  have hfew : (searchP G sets A 4000 4000).nodes ≤ (wholeP G sets A 400).2.2.es.length := by
    obtain ⟨R, r1, r2, r3⟩ := rea
    rw [r2, W.len]
    exact nodup_le r1 (fun x hx => r3 x hx (fun z => z ∈ (wholeP G sets A 400).2.2.l) W.begins W.closed)
  refine ⟨?_, hfew⟩
  rw [SQ]
  rcases search_told (b := ⟨heldP 4000, heldP 4000⟩) (inq := inP G sets A) (nice_of lt hn) (by decide) (first_ok hn) with h | h
  · rcases h.kind with ⟨k1, _, k2⟩ | ⟨k1, _⟩
    · exact .inl ⟨k1, lasso_good k2⟩
    · exfalso
      have h9 := U.over k1
      have u1 := U.few
      have u2 := U.dn
      rcases h9 with ⟨_, h9⟩ | ⟨_, h9⟩ <;> omega
  · obtain ⟨R, _, _, _, r3, r4, r5⟩ := h.all
    exact .inr ⟨h.kind.1, none_good r3 r4 r5⟩
end Go.Proofs.Ytfcpfcgcfaacnaa
