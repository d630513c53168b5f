/- A way for ever in the product of turns just if one in the product without that meets all sets: of lists. No conditions but a small graph. -/
import Derived.Test.YtmlbjfaofppikaaPrSomeP
import Derived.Test.YtmlbjfaofppikaaPrTurnsP
namespace Go.Proofs.Ytmlbjfaofppikaa

/-! a whole product that is there -/
theorem wholeL_most {G : GR} {sets : List (List Bool)} {A : AU} {most : Int} (hm0 : 0 ≤ most) : ∀ (f i : Nat) (s s' : WR), wholeL G sets A most f i s = some s' → (s'.l.length : Int) ≤ most ∨ (s.l.length ≤ i ∧ s' = s)
  | 0, _, _, _, h => by simp [wholeL] at h
  | f + 1, i, s, s', h => by
    by_cases hl : i < s.l.length
    · by_cases hm : most < (s.l.length : Int)
      · rw [wholeL_more hl hm] at h
        cases h
      · rw [wholeL_step hl hm] at h
        rcases wholeL_most hm0 f (i + 1) _ s' h with h1 | ⟨h1, rfl⟩
        · exact .inl h1
        · refine .inl ?_
          have h2 : (stepW G sets A s.l[i] s).l.length ≤ i + 1 := h1
          omega
    · rw [wholeL_end hl] at h
      cases h
      exact .inr ⟨by omega, rfl⟩
/-- what a whole product tells -/
structure WholeOk (G : GR) (sets : List (List Bool)) (A : AU) (init : List Int) (s : WR) : Prop where
  ini : init = upTo (firstP G A).length
  first : ∀ (k : Nat) (x : PP), (firstP G A)[k]? = some x → s.l[k]? = some x
  len : s.es.length = s.l.length
  rows : ∀ (k : Nat) (x : PP) (r : List PR), s.l[k]? = some x → s.es[k]? = some r → NextAt s.l r (nextP G sets A x)
theorem wholeP_rows {G : GR} {sets : List (List Bool)} {A : AU} {m : Int} (h : (wholeP G sets A m).1 = 0) : newB G sets A = true ∧ WholeOk G sets A (wholeP G sets A m).2.1 (wholeP G sets A m).2.2 ∧ ((wholeP G sets A m).2.2.l.length : Int) ≤ most' m := by
  unfold wholeP at h ⊢
  by_cases hn : newB G sets A = true
  · rw [if_pos hn] at h ⊢
    by_cases hm : m < 0
    · rw [if_pos hm] at h
      cases h
    · rw [if_neg hm] at h ⊢
      have hm0 : 0 ≤ most' m := by unfold most'; split <;> omega
      cases hw : wholeL G sets A (most' m) 65540 0 ⟨firstP G A, [], [], []⟩ with
      | none => rw [hw] at h; cases h
      | some s =>
        obtain ⟨h1, h2, h3⟩ := wholeL_rows 65540 0 ⟨firstP G A, [], [], []⟩ s (Nat.zero_le _) rfl (fun k x r _ hr => by simp at hr) hw
        refine ⟨hn, ⟨rfl, h2, h1, h3⟩, ?_⟩
        show (s.l.length : Int) ≤ _
        rcases wholeL_most hm0 65540 0 _ s hw with h4 | ⟨h4, rfl⟩
        · exact h4
        · have h5 : (firstP G A).length ≤ 0 := h4
          show ((firstP G A).length : Int) ≤ _
          omega
  · rw [if_neg hn] at h
    cases h
theorem numQ_nodup {l : List PP} {x : PP} (h : l.Nodup) : (numQ l x).1.Nodup := by
  unfold numQ
  split
  · exact h
  · rename_i hx
    show (l ++ [x]).Nodup
    rw [List.nodup_append]
    refine ⟨h, by simp, fun a ha b hb => ?_⟩
    simp at hb
    subst hb
    exact fun e => hx (e ▸ ha)
theorem rowQ_nodup (G : GR) (sets : List (List Bool)) (A : AU) (x : PP) {l : List PP} (ys : List PP) (h : l.Nodup) : (rowQ G sets A x l ys).1.Nodup := by
  induction ys using snoc_rec with
  | h0 => exact h
  | h1 ys y ih =>
    rw [rowQ_snoc]
    exact numQ_nodup ih
theorem nodup_le {α : Type} : ∀ {l m : List α}, l.Nodup → (∀ x ∈ l, x ∈ m) → l.length ≤ m.length
  | [], _, _, _ => Nat.zero_le _
  | x :: l, m, h, hs => by
    obtain ⟨a, b, rfl⟩ := List.append_of_mem (hs x (.head _))
    rw [List.nodup_cons] at h
    have := nodup_le (l := l) (m := a ++ b) h.2 (fun y hy => by
      have h1 := hs y (.tail _ hy)
      rcases List.mem_append.1 h1 with h2 | h2
      · exact List.mem_append.2 (.inl h2)
      · rcases List.mem_cons.1 h2 with rfl | h2
        · exact absurd hy h.1
        · exact List.mem_append.2 (.inr h2))
    simp only [List.length_cons, List.length_append] at this ⊢
    omega
/-- where all pairs are among those of a list, the whole product is there -/
theorem wholeL_some {G : GR} {sets : List (List Bool)} {A : AU} {most : Int} {M : List PP} (hM : (M.length : Int) ≤ most) (hcl : ∀ x ∈ M, ∀ y ∈ nextP G sets A x, y ∈ M) : ∀ (f i : Nat) (s : WR), s.l.Nodup → (∀ x ∈ s.l, x ∈ M) → i ≤ s.l.length → M.length + 2 ≤ f + i → ∃ s', wholeL G sets A most f i s = some s'
  | 0, i, s, h1, h2, hi, h3 => by
    have := nodup_le h1 h2
    omega
  | f + 1, i, s, h1, h2, hi, h3 => by
    by_cases hl : i < s.l.length
    · have h4 := nodup_le h1 h2
      have hm : ¬ most < (s.l.length : Int) := by omega
      rw [wholeL_step hl hm]
      have h5 := (rowQ_len G sets A s.l[i] s.l (nextP G sets A s.l[i])).1
      refine wholeL_some hM hcl f (i + 1) _ (rowQ_nodup _ _ _ _ _ h1) (rowQ_all _ _ _ _ h2 (hcl _ (h2 _ (List.getElem_mem hl)))) ?_ (by omega)
      show i + 1 ≤ (rowQ G sets A s.l[i] s.l (nextP G sets A s.l[i])).1.length
      omega
    · rw [wholeL_end hl]
      exact ⟨s, rfl⟩
/-- a whole product's list holds all that is next -/
theorem WholeOk.closed {G : GR} {sets : List (List Bool)} {A : AU} {init : List Int} {s : WR} (h : WholeOk G sets A init s) : ∀ x ∈ s.l, ∀ y ∈ nextP G sets A x, y ∈ s.l := by
  intro x hx y hy
  obtain ⟨k, hk⟩ := List.getElem?_of_mem hx
  obtain ⟨v, _, hv⟩ := (tgts_at h.len h.rows hk).2 y hy
  exact List.mem_of_getElem? hv
theorem WholeOk.begins {G : GR} {sets : List (List Bool)} {A : AU} {init : List Int} {s : WR} (h : WholeOk G sets A init s) : ∀ x ∈ firstP G A, x ∈ s.l := by
  intro x hx
  obtain ⟨k, hk⟩ := List.getElem?_of_mem hx
  exact List.mem_of_getElem? (h.first k x hk)
/-- within a list that holds all that is next -/
theorem Plus.within {nx : PP → List PP} {L : PP → Prop} {l : List PP} (hcl : ∀ x ∈ l, ∀ y ∈ nx x, y ∈ l) {x y : PP} (hx : x ∈ l) (h : Plus (fun x y => y ∈ nx x) L x y) : y ∈ l ∧ Plus (fun x y => y ∈ nx x) (fun z => L z ∧ z ∈ l) x y := by
  induction h with
  | one a b => exact ⟨hcl _ hx _ a, .one a ⟨b, hcl _ hx _ a⟩⟩
  | more _ a b ih => exact ⟨hcl _ ih.1 _ a, .more ih.2 a ⟨b, hcl _ ih.1 _ a⟩⟩
/-- good, wherever it lies -/
def GoodQ (nx : PP → List PP) (Fp : List (PP → Bool)) (L : PP → Prop) : Prop :=
  ∀ x, L x → (∃ y, Plus (fun x y => y ∈ nx x) L x y) ∧ ∀ p ∈ Fp, ∃ y, Plus (fun x y => y ∈ nx x) L x y ∧ p y = true
theorem someQ {G : GR} {sets : List (List Bool)} {A : AU} {init : List Int} {s : WR} (h : WholeOk G sets A init s) (Fp : List (PP → Bool)) :
    SomeP init s.es (Fp.map fun p => s.l.map p) ↔ ∃ L : PP → Prop, GoodQ (nextP G sets A) Fp L ∧ ∃ x ∈ firstP G A, L x := by
  rw [someR h.len h.rows]
  constructor
  · rintro ⟨L, h1, i, hi, v, rfl, x, hx, hLx⟩
    refine ⟨L, fun x hx => (h1 x hx).2, x, ?_, hLx⟩
    rw [h.ini] at hi
    obtain ⟨k, hk, e⟩ := List.mem_map.1 hi
    have e2 : k = v := Int.ofNat.inj e
    subst e2
    have hk2 := List.mem_range.1 hk
    have h3 := h.first k _ (List.getElem?_eq_getElem hk2)
    rw [hx] at h3
    rw [Option.some.inj h3]
    exact List.getElem_mem hk2
  · rintro ⟨L, h1, x, hx, hLx⟩
    obtain ⟨k, hk⟩ := List.getElem?_of_mem hx
    have hk2 := (List.getElem?_eq_some_iff.1 hk).1
    refine ⟨fun z => L z ∧ z ∈ s.l, ?_, (k : Int), ?_, k, rfl, x, h.first k x hk, hLx, h.begins x hx⟩
    · rintro y ⟨hy, hyl⟩
      obtain ⟨⟨z, hz⟩, hF⟩ := h1 y hy
      refine ⟨hyl, ⟨z, (hz.within h.closed hyl).2⟩, fun p hp => ?_⟩
      obtain ⟨u, hu, hpu⟩ := hF p hp
      exact ⟨u, (hu.within h.closed hyl).2, hpu⟩
    · rw [h.ini]
      exact List.mem_map.2 ⟨k, List.mem_range.2 hk2, rfl⟩

/-! the automaton without its sets -/
theorem chkN_bare (n s : Nat) : ∀ l : List AN, chkN n s l = 0 → chkN n 0 (l.map bareN) = 0
  | [], _ => rfl
  | x :: l, h => by
    unfold chkN at h
    by_cases h1 : x.to.any (outB n) = true
    · rw [if_pos h1] at h; cases h
    rw [if_neg h1] at h
    by_cases h2 : x.inn / 2 ^ s ≠ 0
    · rw [if_pos h2] at h; cases h
    rw [if_neg h2] at h
    have ih := chkN_bare n s l h
    show chkN n 0 (bareN x :: l.map bareN) = 0
    unfold chkN
    rw [if_neg (show ¬ (bareN x).to.any (outB n) = true from h1), if_neg (show ¬ (bareN x).inn / 2 ^ 0 ≠ 0 by show ¬ (0 : Nat) / 2 ^ 0 ≠ 0; simp), ih]
theorem chk_bare {A : AU} (h : chk A = 0) : chk (bare A) = 0 := by
  unfold chk at h
  by_cases h1 : 256 < A.nodes.length ∨ 16 < A.sets
  · rw [if_pos h1] at h; cases h
  rw [if_neg h1] at h
  by_cases h2 : A.sets < 0
  · rw [if_pos h2] at h; cases h
  rw [if_neg h2] at h
  by_cases h3 : A.init.any (outB A.nodes.length) = true
  · rw [if_pos h3] at h; cases h
  rw [if_neg h3] at h
  have hl : (bare A).nodes.length = A.nodes.length := List.length_map _
  have hs : (bare A).sets = 0 := rfl
  have hi : (bare A).init = A.init := rfl
  have hn : (bare A).nodes = A.nodes.map bareN := rfl
  unfold chk
  rw [hl, hs, hi, if_neg (by omega), if_neg (by omega), if_neg h3, hn]
  exact chkN_bare _ _ _ h
theorem newB_bare {G : GR} {sets : List (List Bool)} {A : AU} (h : newB G sets A = true) : newB G [] (bare A) = true := by
  unfold newB srcB at h ⊢
  simp only [Bool.and_eq_true, decide_eq_true_eq] at h ⊢
  exact ⟨⟨⟨h.1.1.1, by simp⟩, by simp⟩, chk_bare h.2⟩
theorem Lt.bare {G : GR} {sets : List (List Bool)} {A : AU} (h : Lt G sets A) : Lt G [] (bare A) := by
  refine ⟨h.e, h.i, h.l, by simp, ?_, h.ai, h.r, fun x hx => ?_⟩
  · show (A.nodes.map bareN).length ≤ 8
    rw [List.length_map]; exact h.n
  · obtain ⟨y, hy, rfl⟩ := List.mem_map.1 hx
    exact h.t y hy
theorem AuOk.bare {A : AU} (h : AuOk A) : AuOk (bare A) := by
  refine ⟨⟨by show (-9223372036854775808 : Int) ≤ 0; omega, by show (0 : Int) ≤ 9223372036854775807; omega⟩, h.init, h.initL, ?_, fun x hx => ?_⟩
  · show (A.nodes.map bareN).length ≤ _
    rw [List.length_map]; exact h.nodesL
  · obtain ⟨y, hy, rfl⟩ := List.mem_map.1 hx
    obtain ⟨a, b, c, d⟩ := h.nodes y hy
    exact ⟨a, b, by show (0 : Nat) < _; omega, d⟩
theorem first_bare (G : GR) (A : AU) : firstP G (bare A) = firstP G A := by
  have h : ∀ (lab : Nat) (node turn : Int) (states : List Int) (out : List PP), pairsP (bare A) lab node turn out states = pairsP A lab node turn out states := by
    intro lab node turn states
    induction states with
    | nil => intro out; rfl
    | cons q l ih =>
      intro out
      have e : readsB (nodeP (bare A) q) lab = readsB (nodeP A q) lab := by rw [bare_node]; rfl
      have e1 : pairsP (bare A) lab node turn out (q :: l) = pairsP (bare A) lab node turn (if readsB (nodeP (bare A) q) lab then addP out ⟨node, q, turn⟩ else out) l := rfl
      have e2 : pairsP A lab node turn out (q :: l) = pairsP A lab node turn (if readsB (nodeP A q) lab then addP out ⟨node, q, turn⟩ else out) l := rfl
      rw [e1, e2, e, ih]
  unfold firstP
  have h2 : ∀ (ns : List Int) (out : List PP), ns.foldl (fun out n => pairsP (bare A) (labP G n) n 0 out (bare A).init) out = ns.foldl (fun out n => pairsP A (labP G n) n 0 out A.init) out := by
    intro ns
    induction ns with
    | nil => intro out; rfl
    | cons n ns ih =>
      intro out
      rw [List.foldl_cons, List.foldl_cons, ih]
      congr 1
      exact h _ _ _ _ _
  exact h2 _ _
theorem vPP_is {G : GR} {sets : List (List Bool)} {A : AU} {x : PP} (h : vPP G sets A x) : isP sets A x = true := by
  obtain ⟨_, ⟨a, b⟩, c, d⟩ := h
  unfold isP inG
  simp only [Bool.and_eq_true, decide_eq_true_eq]
  exact ⟨⟨a, b⟩, c, d⟩
/-- of which set a pair is, turns aside -/
def setB (G : GR) (sets : List (List Bool)) (A : AU) (i : Nat) (v : PP) : Bool := ofP G sets A ⟨v.node, v.state, (i : Int)⟩
theorem ofP_self {G : GR} {sets : List (List Bool)} {A : AU} {x : PP} (h : 0 ≤ x.turn) : ofP G sets A x = setB G sets A x.turn.toNat (base x) := by
  obtain ⟨n, s, t⟩ := x
  show ofP G sets A ⟨n, s, t⟩ = ofP G sets A ⟨n, s, ((t.toNat : Nat) : Int)⟩
  have e : ((t.toNat : Nat) : Int) = t := Int.toNat_of_nonneg h
  rw [e]
theorem turn_rel {G : GR} {sets : List (List Bool)} {A : AU} {x : PP} (h : vPP G sets A x) : turnN (allS sets A) (fun i v => setB G sets A i v = true) (base x) x.turn.toNat (turnP G sets A x).toNat := by
  have hi := vPP_is h
  obtain ⟨_, _, h1, h2⟩ := h
  unfold turnN turnP
  by_cases h0 : allS sets A = 0
  · left
    refine ⟨h0, ?_⟩
    rw [if_neg (by omega)]
    rw [h0] at h2
    omega
  · right
    by_cases ho : ofP G sets A x = true
    · left
      refine ⟨by omega, (ofP_self h1).symm.trans ho, ?_⟩
      rw [if_pos ⟨by omega, ho⟩]
      obtain ⟨k, hk⟩ := Int.eq_ofNat_of_zero_le h1
      rw [hk, Int.toNat_natCast]
      have e2 : ((k : Int) + 1) % ((allS sets A : Nat) : Int) = (((k + 1) % allS sets A : Nat) : Int) := by push_cast; rfl
      rw [e2, Int.toNat_natCast]
    · right
      refine ⟨by omega, fun hs => ho ((ofP_self h1).trans hs), ?_⟩
      rw [if_neg (fun e => ho e.2)]
theorem turnN_one {β : Type} {n : Nat} {F : Nat → β → Prop} {v : β} {t a b : Nat} (h : turnN n F v t a) (k : turnN n F v t b) : a = b := by
  rcases h with h | h | h <;> rcases k with k | k | k
  · omega
  · omega
  · omega
  · omega
  · rw [h.2.2, k.2.2]
  · exact absurd h.2.1 k.2.1
  · omega
  · exact absurd k.2.1 h.2.1
  · rw [h.2.2, k.2.2]
theorem base_eta {x : PP} (h : x.turn = 0) : base x = x := by
  obtain ⟨n, s, t⟩ := x
  cases h
  rfl
theorem PP.eta (x : PP) : (⟨x.node, x.state, x.turn⟩ : PP) = x := rfl
section
variable {G : GR} {sets : List (List Bool)} {A : AU}
/-- the steps without turns -/
abbrev stepB (G : GR) (A : AU) (v w : PP) : Prop := w ∈ nextP G [] (bare A) v
abbrev FB (G : GR) (sets : List (List Bool)) (A : AU) (i : Nat) (v : PP) : Prop := setB G sets A i v = true
abbrev fB (x : PP) : PP × Nat := (base x, x.turn.toNat)
theorem step_of {x y : PP} (hx : vPP G sets A x) (h : y ∈ nextP G sets A x) : stepN (allS sets A) (FB G sets A) (stepB G A) (fB x) (fB y) := by
  have hi := vPP_is hx
  have ht := (next_turn y h).2
  refine ⟨(bare_next hi).2 ⟨rfl, ?_⟩, ?_⟩
  · show (⟨y.node, y.state, turnP G sets A x⟩ : PP) ∈ _
    rw [← ht]
    exact h
  · have := turn_rel hx
    rw [← ht] at this
    exact this
theorem step_back {x : PP} {z : PP × Nat} (hx : vPP G sets A x) (h : stepN (allS sets A) (FB G sets A) (stepB G A) (fB x) z) : ∃ y, y ∈ nextP G sets A x ∧ fB y = z := by
  obtain ⟨w, t⟩ := z
  have hi := vPP_is hx
  obtain ⟨h1, h2⟩ := (bare_next hi).1 h.1
  refine ⟨⟨w.node, w.state, turnP G sets A x⟩, h2, ?_⟩
  have e := turnN_one (turn_rel hx) h.2
  show (base ⟨w.node, w.state, turnP G sets A x⟩, (turnP G sets A x).toNat) = (w, t)
  rw [e]
  congr 1
  exact base_eta h1
theorem in_rel {x : PP} (hx : vPP G sets A x) : inP G sets A x = true ↔ inN (allS sets A) (FB G sets A) (fB x) := by
  have hi := vPP_is hx
  have h1 := hx.2.2.1
  unfold inP inN
  rw [hi]
  simp only [Bool.true_and, Bool.or_eq_true, Bool.and_eq_true, decide_eq_true_eq]
  constructor
  · rintro (h | ⟨h2, h3⟩)
    · exact .inl h
    · refine .inr ⟨by show x.turn.toNat = 0; omega, ?_⟩
      rw [ofP_self h1, h2] at h3
      exact h3
  · rintro (h | ⟨h2, h3⟩)
    · exact .inl h
    · have h4 : x.turn.toNat = 0 := h2
      refine .inr ⟨by omega, ?_⟩
      rw [ofP_self h1, h4]
      exact h3
theorem plus_of (hg : gchk G = 0) (hc : chk A = 0) {L : PP → Prop} {x y : PP} (hx : vPP G sets A x) (h : Plus (fun x y => y ∈ nextP G sets A x) L x y) :
    vPP G sets A y ∧ Plus (stepN (allS sets A) (FB G sets A) (stepB G A)) (fun z => ∃ u, L u ∧ vPP G sets A u ∧ fB u = z) (fB x) (fB y) := by
  induction h with
  | one a b =>
    have hy := next_valid hg hc _ _ a
    exact ⟨hy, .one (step_of hx a) ⟨_, b, hy, rfl⟩⟩
  | more _ a b ih =>
    have hy := next_valid hg hc _ _ a
    exact ⟨hy, .more ih.2 (step_of ih.1 a) ⟨_, b, hy, rfl⟩⟩
theorem plus_back (hg : gchk G = 0) (hc : chk A = 0) {L : PP → Prop} {x : PP} {z : PP × Nat} (hx : vPP G sets A x) (h : Plus (stepN (allS sets A) (FB G sets A) (stepB G A)) (fun z => L z.1) (fB x) z) :
    ∃ y, fB y = z ∧ vPP G sets A y ∧ Plus (fun x y => y ∈ nextP G sets A x) (fun u => L (base u) ∧ vPP G sets A u) x y := by
  induction h with
  | one a b =>
    obtain ⟨y, h1, rfl⟩ := step_back hx a
    have hy := next_valid hg hc _ _ h1
    exact ⟨y, rfl, hy, .one h1 ⟨b, hy⟩⟩
  | more _ a b ih =>
    obtain ⟨u, rfl, hu, hp⟩ := ih
    obtain ⟨y, h1, rfl⟩ := step_back hu a
    have hy := next_valid hg hc _ _ h1
    exact ⟨y, rfl, hy, .more hp h1 ⟨b, hy⟩⟩
theorem Plus.weak {α : Type} {R : α → α → Prop} {L M : α → Prop} (hM : ∀ z, L z → M z) {x y : α} (h : Plus R L x y) : Plus R M x y := by
  induction h with
  | one a b => exact .one a (hM _ b)
  | more _ a b ih => exact .more ih a (hM _ b)
/-- the ways of both -/
theorem both_ways (hg : gchk G = 0) (hc : chk A = 0) :
    (∃ L : PP → Prop, GoodQ (nextP G sets A) [inP G sets A] L ∧ ∃ x ∈ firstP G A, L x) ↔
    ∃ L : PP → Prop, GoodQ (nextP G [] (bare A)) ((List.range (allS sets A)).map (setB G sets A)) L ∧ ∃ x ∈ firstP G (bare A), L x := by
  constructor
  · rintro ⟨L, hL, x, hx, hLx⟩
    have hT : GoodT (allS sets A) (FB G sets A) (stepB G A) (fun z => ∃ u, L u ∧ vPP G sets A u ∧ fB u = z) := by
      rintro _ ⟨u, hu, hv, rfl⟩
      obtain ⟨y, hy, hin⟩ := (hL u hu).2 _ (.head _)
      obtain ⟨h1, h2⟩ := plus_of hg hc hv hy
      exact ⟨_, h2, (in_rel h1).1 hin⟩
    have hN := hT.goodN
    refine ⟨fun v => ∃ t, ∃ u, L u ∧ vPP G sets A u ∧ fB u = (v, t), fun v hv => ?_, x, by rw [first_bare]; exact hx, x.turn.toNat, x, hLx, first_valid hg hc x hx, ?_⟩
    · obtain ⟨h1, h2⟩ := hN v hv
      refine ⟨h1, fun p hp => ?_⟩
      obtain ⟨i, hi, rfl⟩ := List.mem_map.1 hp
      exact h2 i (List.mem_range.1 hi)
    · obtain ⟨_, _, _, _, _, rfl⟩ := first_mem.1 hx
      rfl
  · rintro ⟨L, hL, x, hx, hLx⟩
    have hN : GoodN (allS sets A) (FB G sets A) (stepB G A) L := by
      intro v hv
      obtain ⟨h1, h2⟩ := hL v hv
      exact ⟨h1, fun i hi => h2 _ (List.mem_map.2 ⟨i, List.mem_range.2 hi, rfl⟩)⟩
    rw [first_bare] at hx
    have hxb : base x = x := by
      obtain ⟨_, _, _, _, _, rfl⟩ := first_mem.1 hx
      rfl
    refine ⟨fun u => L (base u) ∧ vPP G sets A u, ?_, x, hx, by rw [hxb]; exact hLx, first_valid hg hc x hx⟩
    rintro u ⟨hu, hv⟩
    have ht : u.turn.toNat < allS sets A ∨ allS sets A = 0 := by
      obtain ⟨_, _, a, b⟩ := hv
      omega
    obtain ⟨z, h1, h2⟩ := hN.goodT ht hu
    obtain ⟨y, rfl, h3, h4⟩ := plus_back hg hc hv h1
    refine ⟨⟨y, h4⟩, fun p hp => ?_⟩
    rw [List.mem_singleton] at hp
    subst hp
    exact ⟨y, h4, (in_rel h3).2 h2⟩
end
/-- the whole product without turns is there, too -/
theorem whole_bare {G : GR} {sets : List (List Bool)} {A : AU} {m : Int} (hm : m ≤ 65536) (h : (wholeP G sets A m).1 = 0) : (wholeP G [] (bare A) m).1 = 0 := by
  obtain ⟨hn, hw, hl⟩ := wholeP_rows h
  have hnb := newB_bare hn
  have hg : gchk G = 0 ∧ chk A = 0 := by
    unfold newB srcB at hn
    simp only [Bool.and_eq_true, decide_eq_true_eq] at hn
    exact ⟨hn.1.1.1, hn.2⟩
  have hmm : most' m = m := by unfold most'; rw [if_neg (by omega)]
  rw [hmm] at hl
  have hm0 : ¬ m < 0 := by omega
  generalize (wholeP G sets A m).2.2 = s at hw hl
  generalize (wholeP G sets A m).2.1 = init at hw
  -- the pairs without turns
  have hcl : ∀ z ∈ (s.l.filter fun x => isP sets A x).map base, ∀ y ∈ nextP G [] (bare A) z, y ∈ (s.l.filter fun x => isP sets A x).map base := by
    intro z hz y hy
    obtain ⟨x, hx, rfl⟩ := List.mem_map.1 hz
    obtain ⟨hx1, hx2⟩ := List.mem_filter.1 hx
    obtain ⟨h1, h2⟩ := (bare_next hx2).1 hy
    have h3 := hw.closed x hx1 _ h2
    have h4 := vPP_is (next_valid hg.1 hg.2 _ _ h2)
    exact List.mem_map.2 ⟨_, List.mem_filter.2 ⟨h3, h4⟩, base_eta h1⟩
  have hlen : (s.l.filter fun x => isP sets A x).length ≤ s.l.length := List.length_filter_le _ _
  obtain ⟨s', hs'⟩ := wholeL_some (most := m) (M := (s.l.filter fun x => isP sets A x).map base) (by rw [List.length_map]; omega) hcl 65540 0 ⟨firstP G (bare A), [], [], []⟩ (first_nodup _ _) (fun x hx => by
    have hx' : x ∈ firstP G A := by rw [← first_bare]; exact hx
    refine List.mem_map.2 ⟨x, List.mem_filter.2 ⟨hw.begins x hx', vPP_is (first_valid hg.1 hg.2 x hx')⟩, ?_⟩
    obtain ⟨_, _, _, _, _, rfl⟩ := first_mem.1 hx'
    rfl) (Nat.zero_le _) (by rw [List.length_map]; omega)
  unfold wholeP
  rw [if_pos hnb, if_neg hm0, hmm, hs']
/-- of both -/
theorem both_plain {G : GR} {sets : List (List Bool)} {A : AU} {m : Int} (hm : m ≤ 65536) (h : (wholeP G sets A m).1 = 0) (hins : (wholeP G sets A m).2.2.ins = (wholeP G sets A m).2.2.l.map (inP G sets A)) :
    (wholeP G [] (bare A) m).1 = 0 ∧ (SomeP (wholeP G sets A m).2.1 (wholeP G sets A m).2.2.es [(wholeP G sets A m).2.2.ins] ↔ SomeP (wholeP G [] (bare A) m).2.1 (wholeP G [] (bare A) m).2.2.es ((List.range (allS sets A)).map fun i => (wholeP G [] (bare A) m).2.2.l.map (setB G sets A i))) := by
  have hb := whole_bare hm h
  obtain ⟨hn, hw, _⟩ := wholeP_rows h
  obtain ⟨_, hw2, _⟩ := wholeP_rows hb
  have hg : gchk G = 0 ∧ chk A = 0 := by
    unfold newB srcB at hn
    simp only [Bool.and_eq_true, decide_eq_true_eq] at hn
    exact ⟨hn.1.1.1, hn.2⟩
  refine ⟨hb, ?_⟩
  rw [hins]
  have k1 := someQ hw [inP G sets A]
  have k2 := someQ hw2 ((List.range (allS sets A)).map (setB G sets A))
  rw [List.map_map] at k2
  exact (k1.trans (both_ways hg.1 hg.2)).trans k2.symm
end Go.Proofs.Ytmlbjfaofppikaa
