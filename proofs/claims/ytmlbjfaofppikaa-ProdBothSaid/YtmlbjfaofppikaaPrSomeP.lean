/- Ways that go on for ever and meet each of sets again and again, in plain lists. No conditions. The search of 'goes', a step at a time, in plain lists. No conditions. The whole product: what its rows tell. No conditions. Which pairs are next, and first. No conditions. An automaton without its sets: its pairs are those of the automaton, without turns. No conditions. Sets met by turns: what goes on for ever in a product of turns, and in one without. In relations. No conditions. Some of a whole product, told of its pairs. No conditions. -/
import Derived.Test.YtmlbjfaofppikaaPrWholeB
import Derived.Test.YtmlbjfaofppikaaPrWholeP
import Derived.Test.YtmlbjfaofppikaaPrIn
namespace Go.Proofs.Ytmlbjfaofppikaa

/-- the edges' ends, of one node -/
def tgts (es : List (List PR)) (u : Nat) : List Int := (es.getD u []).map (·.1)
/-- from s on, within what is left, by one edge or more -/
inductive RLeft (es : List (List PR)) (left : Nat → Bool) (s : Nat) : Nat → Prop
  | one {v : Nat} : (v : Int) ∈ tgts es s → v < es.length → left v = true → RLeft es left s v
  | more {u v : Nat} : RLeft es left s u → (v : Int) ∈ tgts es u → v < es.length → left v = true → RLeft es left s v
/-- to each of sets, and to any -/
def GoesP (es : List (List PR)) (Fs : List (List Bool)) (left : Nat → Bool) (s : Nat) : Prop :=
  (∃ v, RLeft es left s v) ∧ ∀ F ∈ Fs, ∃ v, RLeft es left s v ∧ F.getD v false = true
theorem RLeft.mono {es : List (List PR)} {l1 l2 : Nat → Bool} {s v : Nat} (h : RLeft es l1 s v) (hl : ∀ v, l1 v = true → l2 v = true) : RLeft es l2 s v := by
  induction h with
  | one h1 h2 h3 => exact .one h1 h2 (hl _ h3)
  | more _ h1 h2 h3 ih => exact .more ih h1 h2 (hl _ h3)
theorem GoesP.mono {es : List (List PR)} {Fs : List (List Bool)} {l1 l2 : Nat → Bool} {s : Nat} (h : GoesP es Fs l1 s) (hl : ∀ v, l1 v = true → l2 v = true) : GoesP es Fs l2 s :=
  ⟨h.1.imp fun _ h => h.mono hl, fun F hF => (h.2 F hF).imp fun _ h => ⟨h.1.mono hl, h.2⟩⟩
theorem RLeft.lt {es : List (List PR)} {left : Nat → Bool} {s v : Nat} (h : RLeft es left s v) : v < es.length ∧ left v = true := by
  cases h with
  | one h1 h2 h3 => exact ⟨h2, h3⟩
  | more _ h1 h2 h3 => exact ⟨h2, h3⟩
theorem RLeft.trans {es : List (List PR)} {left : Nat → Bool} {s u v : Nat} (h : RLeft es left s u) (k : RLeft es left u v) : RLeft es left s v := by
  induction k with
  | one h1 h2 h3 => exact .more h h1 h2 h3
  | more _ h1 h2 h3 ih => exact .more ih h1 h2 h3
/-- each of its nodes leads on within it -/
def GoodL (es : List (List PR)) (Fs : List (List Bool)) (L : Nat → Bool) : Prop := ∀ v, L v = true → v < es.length ∧ GoesP es Fs L v
/-- a way that goes on for ever begins with one of init -/
def SomeP (init : List Int) (es : List (List PR)) (Fs : List (List Bool)) : Prop :=
  ∃ L : Nat → Bool, GoodL es Fs L ∧ ∃ i ∈ init, ∃ v : Nat, i = (v : Int) ∧ L v = true
/-- what no step strikes holds all that is good -/
theorem SomeP.of_end {init : List Int} {es : List (List PR)} {Fs : List (List Bool)} {left : Nat → Bool} (h1 : ∀ L, GoodL es Fs L → ∀ v, L v = true → left v = true) (h2 : GoodL es Fs left) : (∃ i ∈ init, ∃ v : Nat, i = (v : Int) ∧ left v = true) ↔ SomeP init es Fs := by
  constructor
  · rintro ⟨i, hi, v, e, hv⟩
    exact ⟨left, h2, i, hi, v, e, hv⟩
  · rintro ⟨L, hL, i, hi, v, e, hv⟩
    exact ⟨i, hi, v, e, h1 L hL v hv⟩
/-- a strike keeps all that is good -/
theorem GoodL.strike {es : List (List PR)} {Fs : List (List Bool)} {left : Nat → Bool} {i : Nat} (h : ∀ L, GoodL es Fs L → ∀ v, L v = true → left v = true) (hn : ¬ GoesP es Fs left i) : ∀ L, GoodL es Fs L → ∀ v, L v = true → (decide (v ≠ i) && left v) = true := by
  intro L hL v hv
  have hne : v ≠ i := by
    rintro rfl
    exact hn ((hL v hv).2.mono (h L hL))
  rw [decide_eq_true hne, h L hL v hv]
  rfl
end Go.Proofs.Ytmlbjfaofppikaa

namespace Go.Proofs.Ytmlbjfaofppikaa

/-- all that a node leads to is seen -/
def ShutP (es : List (List PR)) (left : Nat → Bool) (seen : List Bool) (l : List Int) : Prop := ∀ v : Nat, (v : Int) ∈ l → v < es.length → left v = true → seen.getD v false = true
/-- between two nodes -/
structure GOut (es : List (List PR)) (left : Nat → Bool) (s : Nat) (seen : List Bool) (todo : List Nat) : Prop where
  len : seen.length = es.length
  ok : ∀ v, seen.getD v false = true → RLeft es left s v
  cls : ∀ u, (u = s ∨ seen.getD u false = true) → u ∈ todo ∨ ShutP es left seen (tgts es u)
  td : ∀ u ∈ todo, u < es.length ∧ (u = s ∨ seen.getD u false = true)
/-- within a node n, its first k edges done -/
structure GIn (es : List (List PR)) (left : Nat → Bool) (s : Nat) (seen : List Bool) (todo : List Nat) (n k : Nat) : Prop where
  len : seen.length = es.length
  ok : ∀ v, seen.getD v false = true → RLeft es left s v
  cls : ∀ u, (u = s ∨ seen.getD u false = true) → u ∈ todo ∨ u = n ∨ ShutP es left seen (tgts es u)
  td : ∀ u ∈ todo, u < es.length ∧ (u = s ∨ seen.getD u false = true)
  me : n = s ∨ seen.getD n false = true
  row : ShutP es left seen ((tgts es n).take k)
theorem GOut.start {es : List (List PR)} {left : Nat → Bool} {s : Nat} (hs : s < es.length) : GOut es left s (List.replicate es.length false) [s] := by
  have e : ∀ v, (List.replicate es.length false).getD v false = false := by
    intro v
    rw [List.getD_eq_getElem?_getD, List.getElem?_replicate]
    split <;> rfl
  refine ⟨List.length_replicate, fun v h => ?_, fun u h => ?_, fun u h => ?_⟩
  · rw [e] at h; cases h
  · rcases h with rfl | h
    · exact .inl (List.mem_singleton.2 rfl)
    · rw [e] at h; cases h
  · rw [List.mem_singleton] at h
    exact ⟨h ▸ hs, .inl h⟩
theorem GOut.pop {es : List (List PR)} {left : Nat → Bool} {s n : Nat} {seen : List Bool} {todo : List Nat} (h : GOut es left s seen (n :: todo)) : GIn es left s seen todo n 0 := by
  refine ⟨h.len, h.ok, fun u hu => ?_, fun u hu => h.td u (.tail _ hu), (h.td n (.head _)).2, fun v hv => ?_⟩
  · rcases h.cls u hu with k | k
    · rcases List.mem_cons.1 k with k | k
      · exact .inr (.inl k)
      · exact .inl k
    · exact .inr (.inr k)
  · simp at hv
theorem take_put {l : List Int} {k : Nat} {t : Int} (hk : l[k]? = some t) {v : Int} (h : v ∈ l.take (k + 1)) : v ∈ l.take k ∨ v = t := by
  rw [List.take_add_one, hk] at h
  rcases List.mem_append.1 h with h | h
  · exact .inl h
  · exact .inr (by simpa using h)
theorem GIn.skip {es : List (List PR)} {left : Nat → Bool} {s n k : Nat} {seen : List Bool} {todo : List Nat} {t : Int} (h : GIn es left s seen todo n k) (hk : (tgts es n)[k]? = some t)
    (hn : ∀ v : Nat, t = (v : Int) → v < es.length → left v = true → seen.getD v false = true) : GIn es left s seen todo n (k + 1) := by
  refine ⟨h.len, h.ok, h.cls, h.td, h.me, fun v hv h1 h2 => ?_⟩
  rcases take_put hk hv with hv | hv
  · exact h.row v hv h1 h2
  · exact hn v hv.symm h1 h2
theorem seen_set {seen : List Bool} {v u : Nat} (h : seen.getD u false = true) : (seen.set v true).getD u false = true := by
  rw [List.getD_eq_getElem?_getD] at h ⊢
  rw [List.getElem?_set]
  split
  · split
    · rfl
    · rename_i e h2
      subst e
      rw [List.getElem?_eq_none (by omega)] at h
      cases h
  · exact h
theorem seen_new {seen : List Bool} {v : Nat} (h : v < seen.length) : (seen.set v true).getD v false = true := by
  rw [List.getD_eq_getElem?_getD, List.getElem?_set, if_pos rfl, if_pos h]
  rfl
theorem seen_old {seen : List Bool} {v u : Nat} (h : (seen.set v true).getD u false = true) : u = v ∨ seen.getD u false = true := by
  by_cases e : v = u
  · exact .inl e.symm
  · rw [List.getD_eq_getElem?_getD, List.getElem?_set, if_neg e, ← List.getD_eq_getElem?_getD] at h
    exact .inr h
theorem GIn.push {es : List (List PR)} {left : Nat → Bool} {s n k v : Nat} {seen : List Bool} {todo : List Nat} (h : GIn es left s seen todo n k) (hk : (tgts es n)[k]? = some (v : Int)) (hv : v < es.length) (hl : left v = true) :
    GIn es left s (seen.set v true) (todo ++ [v]) n (k + 1) := by
  have hm : (v : Int) ∈ tgts es n := List.mem_of_getElem? hk
  refine ⟨by rw [List.length_set, h.len], fun u hu => ?_, fun u hu => ?_, fun u hu => ?_, ?_, fun u hu h1 h2 => ?_⟩
  · rcases seen_old hu with rfl | hu
    · rcases h.me with rfl | hn
      · exact .one hm hv hl
      · exact .more (h.ok n hn) hm hv hl
    · exact h.ok u hu
  · by_cases e : u = v
    · exact .inl (List.mem_append.2 (.inr (List.mem_singleton.2 e)))
    · have hu' : u = s ∨ seen.getD u false = true := by
        rcases hu with hu | hu
        · exact .inl hu
        · rcases seen_old hu with hu | hu
          · exact absurd hu e
          · exact .inr hu
      rcases h.cls u hu' with k1 | k1 | k1
      · exact .inl (List.mem_append.2 (.inl k1))
      · exact .inr (.inl k1)
      · exact .inr (.inr fun w hw h1 h2 => seen_set (k1 w hw h1 h2))
  · rcases List.mem_append.1 hu with hu | hu
    · exact ⟨(h.td u hu).1, (h.td u hu).2.imp id seen_set⟩
    · rw [List.mem_singleton] at hu
      subst hu
      exact ⟨hv, .inr (seen_new (by rw [h.len]; exact hv))⟩
  · exact h.me.imp id seen_set
  · rcases take_put hk hu with hu | hu
    · exact seen_set (h.row u hu h1 h2)
    · have e : u = v := by exact_mod_cast hu
      rw [e]
      exact seen_new (by rw [h.len]; exact hv)
theorem GIn.out {es : List (List PR)} {left : Nat → Bool} {s n k : Nat} {seen : List Bool} {todo : List Nat} (h : GIn es left s seen todo n k) (hk : (tgts es n).length ≤ k) : GOut es left s seen todo := by
  refine ⟨h.len, h.ok, fun u hu => ?_, h.td⟩
  rcases h.cls u hu with k1 | k1 | k1
  · exact .inl k1
  · subst k1
    have hr := h.row
    rw [List.take_of_length_le hk] at hr
    exact .inr hr
  · exact .inr k1
theorem GOut.done {es : List (List PR)} {left : Nat → Bool} {s : Nat} {seen : List Bool} (h : GOut es left s seen []) (v : Nat) : seen.getD v false = true ↔ RLeft es left s v := by
  refine ⟨h.ok v, fun hv => ?_⟩
  have sh : ∀ u, (u = s ∨ seen.getD u false = true) → ShutP es left seen (tgts es u) := fun u hu => (h.cls u hu).resolve_left (by simp)
  induction hv with
  | one h1 h2 h3 => exact sh s (.inl rfl) _ h1 h2 h3
  | more _ h1 h2 h3 ih => exact sh _ (.inr ih) _ h1 h2 h3
/-- what is not seen -/
def unseen (seen : List Bool) : Nat := (seen.filter (!·)).length
theorem unseen_le (seen : List Bool) : unseen seen ≤ seen.length := List.length_filter_le _ _
theorem unseen_set : ∀ {seen : List Bool} {v : Nat}, v < seen.length → seen.getD v false = false → unseen (seen.set v true) + 1 = unseen seen
  | [], _, h, _ => by simp at h
  | b :: l, 0, _, h2 => by
    have e : b = false := by simpa using h2
    subst e
    simp [unseen]
  | b :: l, v + 1, h, h2 => by
    have := unseen_set (seen := l) (v := v) (by simpa using h) (by simpa using h2)
    cases b <;> simp [unseen] at this ⊢ <;> omega
end Go.Proofs.Ytmlbjfaofppikaa

namespace Go.Proofs.Ytmlbjfaofppikaa

/-- where a pair's number is, there it is -/
theorem numQ_at (l : List PP) (x : PP) : (numQ l x).1[(numQ l x).2]? = some x := by
  unfold numQ
  split
  · rename_i h
    show l[l.idxOf x]? = some x
    rw [List.getElem?_eq_getElem (List.idxOf_lt_length_of_mem h)]
    simp
  · simp
/-- a row tells the numbers of the next pairs -/
def NextAt (l : List PP) (r : List PR) (ys : List PP) : Prop := r.length = ys.length ∧ ∀ (j : Nat) (y : PP), ys[j]? = some y → ∃ (i : Nat) (a : Int), r[j]? = some ((i : Int), a) ∧ l[i]? = some y
theorem NextAt.mono {l l' : List PP} {r : List PR} {ys : List PP} (h : NextAt l r ys) (hl : ∀ (i : Nat) (y : PP), l[i]? = some y → l'[i]? = some y) : NextAt l' r ys := by
  refine ⟨h.1, fun j y hj => ?_⟩
  obtain ⟨i, a, h1, h2⟩ := h.2 j y hj
  exact ⟨i, a, h1, hl _ _ h2⟩
theorem rowQ_at_go (G : GR) (sets : List (List Bool)) (A : AU) (x : PP) : ∀ (ys : List PP) (s : List PP × List PR) (done : List PP), NextAt s.1 s.2 done →
    NextAt (ys.foldl (rowStep G sets A x) s).1 (ys.foldl (rowStep G sets A x) s).2 (done ++ ys)
  | [], s, done, h => by simpa using h
  | y :: ys, s, done, h => by
    rw [List.foldl_cons]
    have := rowQ_at_go G sets A x ys (rowStep G sets A x s y) (done ++ [y]) ?_
    · simpa using this
    · refine ⟨by simp [rowStep, h.1], fun j z hz => ?_⟩
      by_cases hj : j < done.length
      · rw [List.getElem?_append_left hj] at hz
        obtain ⟨i, a, h1, h2⟩ := h.2 j z hz
        refine ⟨i, a, ?_, ?_⟩
        · show (s.2 ++ _)[j]? = _
          rw [List.getElem?_append_left (by rw [h.1]; exact hj)]
          exact h1
        · have hi : i < s.1.length := (List.getElem?_eq_some_iff.1 h2).1
          show (numQ s.1 y).1[i]? = some z
          rw [numQ_old hi, ← List.getElem?_eq_getElem hi, h2]
      · have hz2 : j = done.length ∧ z = y := by
          rw [List.getElem?_append_right (by omega)] at hz
          have hl := (List.getElem?_eq_some_iff.1 hz).1
          have e : j - done.length = 0 := by simp at hl; omega
          rw [e] at hz
          exact ⟨by omega, by simpa using hz.symm⟩
        obtain ⟨rfl, rfl⟩ := hz2
        refine ⟨(numQ s.1 z).2, actP (edgeP G sets A x z), ?_, numQ_at _ _⟩
        show (s.2 ++ _)[done.length]? = _
        rw [← h.1]
        simp
theorem rowQ_at (G : GR) (sets : List (List Bool)) (A : AU) (x : PP) (l ys : List PP) : NextAt (rowQ G sets A x l ys).1 (rowQ G sets A x l ys).2 ys := by
  exact rowQ_at_go G sets A x ys (l, []) [] ⟨rfl, by simp⟩
/-- the whole product's rows tell the numbers of all next pairs -/
theorem wholeL_rows {G : GR} {sets : List (List Bool)} {A : AU} {most : Int} : ∀ (f i : Nat) (s s' : WR), i ≤ s.l.length → s.es.length = i → (∀ (k : Nat) (x : PP) (r : List PR), s.l[k]? = some x → s.es[k]? = some r → NextAt s.l r (nextP G sets A x)) → wholeL G sets A most f i s = some s' →
    s'.es.length = s'.l.length ∧ (∀ (k : Nat) (x : PP), s.l[k]? = some x → s'.l[k]? = some x) ∧ ∀ (k : Nat) (x : PP) (r : List PR), s'.l[k]? = some x → s'.es[k]? = some r → NextAt s'.l r (nextP G sets A x)
  | 0, _, _, _, _, _, _, h => by simp [wholeL] at h
  | f + 1, i, s, s', hi, h1, h2, h => by
    by_cases hl : i < s.l.length
    · by_cases hm : most < (s.l.length : Int)
      · rw [wholeL_more hl hm] at h
        cases h
      · rw [wholeL_step hl hm] at h
        have old : ∀ (k : Nat) (x : PP), s.l[k]? = some x → (rowQ G sets A s.l[i] s.l (nextP G sets A s.l[i])).1[k]? = some x := by
          intro k x hk
          obtain ⟨hk1, hk2⟩ := List.getElem?_eq_some_iff.1 hk
          rw [rowQ_old G sets A s.l[i] s.l _ hk1, hk2]
        have lenle : s.l.length ≤ (rowQ G sets A s.l[i] s.l (nextP G sets A s.l[i])).1.length := by
          have := old (s.l.length - 1) s.l[s.l.length - 1] (List.getElem?_eq_getElem (by omega))
          have := (List.getElem?_eq_some_iff.1 this).1
          omega
        have hrows : ∀ (k : Nat) (x : PP) (r : List PR), (stepW G sets A s.l[i] s).l[k]? = some x → (stepW G sets A s.l[i] s).es[k]? = some r → NextAt (stepW G sets A s.l[i] s).l r (nextP G sets A x) := by
          intro k x r hk hr
          have hk' : (rowQ G sets A s.l[i] s.l (nextP G sets A s.l[i])).1[k]? = some x := hk
          have hr' : (s.es ++ [(rowQ G sets A s.l[i] s.l (nextP G sets A s.l[i])).2])[k]? = some r := hr
          show NextAt (rowQ G sets A s.l[i] s.l (nextP G sets A s.l[i])).1 r (nextP G sets A x)
          by_cases hki : k < i
          · rw [List.getElem?_append_left (by omega)] at hr'
            have hks : k < s.l.length := by omega
            have e : s.l[k]? = some x := by
              rw [rowQ_old G sets A s.l[i] s.l _ hks] at hk'
              rw [List.getElem?_eq_getElem hks, hk']
            exact (h2 k x r e hr').mono old
          · have hlen := (List.getElem?_eq_some_iff.1 hr').1
            have e : k = i := by simp [h1] at hlen; omega
            subst e
            have er : r = (rowQ G sets A s.l[k] s.l (nextP G sets A s.l[k])).2 := by
              rw [List.getElem?_append_right (by omega)] at hr'
              have e0 : k - s.es.length = 0 := by omega
              rw [e0] at hr'
              exact (Option.some.inj hr').symm
            have ex : x = s.l[k] := by
              rw [rowQ_old G sets A s.l[k] s.l _ hl] at hk'
              exact (Option.some.inj hk').symm
            rw [er, ex]
            exact rowQ_at G sets A _ _ _
        obtain ⟨r1, r2, r3⟩ := wholeL_rows f (i + 1) (stepW G sets A s.l[i] s) s' (by show i + 1 ≤ (rowQ G sets A s.l[i] s.l (nextP G sets A s.l[i])).1.length; omega) (by simp [stepW, h1]) hrows h
        exact ⟨r1, fun k x hk => r2 k x (old k x hk), r3⟩
    · rw [wholeL_end hl] at h
      cases h
      exact ⟨by omega, fun _ _ h => h, h2⟩
end Go.Proofs.Ytmlbjfaofppikaa

namespace Go.Proofs.Ytmlbjfaofppikaa

theorem addP_mem {l : List PP} {x y : PP} : y ∈ addP l x ↔ y ∈ l ∨ y = x := by
  unfold addP
  split
  · rename_i h
    constructor
    · exact .inl
    · rintro (h1 | rfl)
      · exact h1
      · first | exact h | simpa using h
  · simp
theorem pairsP_mem {A : AU} {lab : Nat} {node turn : Int} {y : PP} : ∀ {states : List Int} {out : List PP}, y ∈ pairsP A lab node turn out states ↔ y ∈ out ∨ ∃ q ∈ states, readsB (nodeP A q) lab = true ∧ y = ⟨node, q, turn⟩
  | [], out => by simp [pairsP]
  | q :: qs, out => by
    have ih := pairsP_mem (A := A) (lab := lab) (node := node) (turn := turn) (y := y) (states := qs) (out := if readsB (nodeP A q) lab then addP out ⟨node, q, turn⟩ else out)
    show y ∈ pairsP A lab node turn (if readsB (nodeP A q) lab then addP out ⟨node, q, turn⟩ else out) qs ↔ _
    rw [ih]
    by_cases hr : readsB (nodeP A q) lab = true
    · rw [if_pos hr, addP_mem]
      constructor
      · rintro ((h | h) | ⟨p, h1, h2⟩)
        · exact .inl h
        · exact .inr ⟨q, .head _, hr, h⟩
        · exact .inr ⟨p, .tail _ h1, h2⟩
      · rintro (h | ⟨p, h1, h2, h3⟩)
        · exact .inl (.inl h)
        · rcases List.mem_cons.1 h1 with rfl | h1
          · exact .inl (.inr h3)
          · exact .inr ⟨p, h1, h2, h3⟩
    · rw [if_neg hr]
      constructor
      · rintro (h | ⟨p, h1, h2⟩)
        · exact .inl h
        · exact .inr ⟨p, .tail _ h1, h2⟩
      · rintro (h | ⟨p, h1, h2, h3⟩)
        · exact .inl h
        · rcases List.mem_cons.1 h1 with rfl | h1
          · exact absurd h2 hr
          · exact .inr ⟨p, h1, h2, h3⟩
theorem folds_mem {α : Type} {A : AU} (lab : α → Nat) (node : α → Int) (turn : Int) (states : List Int) {y : PP} : ∀ {es : List α} {out : List PP},
    y ∈ es.foldl (fun out e => pairsP A (lab e) (node e) turn out states) out ↔ y ∈ out ∨ ∃ e ∈ es, ∃ q ∈ states, readsB (nodeP A q) (lab e) = true ∧ y = ⟨node e, q, turn⟩
  | [], out => by simp
  | e :: es, out => by
    rw [List.foldl_cons, folds_mem lab node turn states, pairsP_mem]
    constructor
    · rintro ((h | h) | ⟨p, h1, h2⟩)
      · exact .inl h
      · exact .inr ⟨e, .head _, h⟩
      · exact .inr ⟨p, .tail _ h1, h2⟩
    · rintro (h | ⟨p, h1, h2⟩)
      · exact .inl (.inl h)
      · rcases List.mem_cons.1 h1 with rfl | h1
        · exact .inl (.inr h2)
        · exact .inr ⟨p, h1, h2⟩
theorem next_mem {G : GR} {sets : List (List Bool)} {A : AU} {x y : PP} : y ∈ nextP G sets A x ↔ isP sets A x = true ∧ ∃ e ∈ edgesP G x.node, ∃ q ∈ (nodeP A x.state).to, readsB (nodeP A q) (labP G e.1) = true ∧ y = ⟨e.1, q, turnP G sets A x⟩ := by
  unfold nextP
  by_cases h : isP sets A x = true
  · rw [if_pos h]
    have k := folds_mem (A := A) (fun e : PR => labP G e.1) (fun e : PR => e.1) (turnP G sets A x) (nodeP A x.state).to (y := y) (es := edgesP G x.node) (out := [])
    simp only [List.not_mem_nil, false_or] at k
    rw [k]
    exact ⟨fun z => ⟨h, z⟩, fun z => z.2⟩
  · rw [if_neg h]
    simp [h]
theorem first_mem {G : GR} {A : AU} {y : PP} : y ∈ firstP G A ↔ ∃ n ∈ G.init, ∃ q ∈ A.init, readsB (nodeP A q) (labP G n) = true ∧ y = ⟨n, q, 0⟩ := by
  have k := folds_mem (A := A) (fun n : Int => labP G n) (fun n : Int => n) 0 A.init (y := y) (es := G.init) (out := [])
  simp only [List.not_mem_nil, false_or] at k
  exact k
end Go.Proofs.Ytmlbjfaofppikaa

namespace Go.Proofs.Ytmlbjfaofppikaa

def bareN (x : AN) : AN := { x with inn := 0 }
def bare (A : AU) : AU := ⟨0, A.init, A.nodes.map bareN⟩
def base (x : PP) : PP := ⟨x.node, x.state, 0⟩
theorem bare_node (A : AU) (q : Int) : nodeP (bare A) q = bareN (nodeP A q) := by
  show (A.nodes.map bareN).getD q.toNat ⟨0, 0, 0, []⟩ = bareN (A.nodes.getD q.toNat ⟨0, 0, 0, []⟩)
  rw [List.getD_eq_getElem?_getD, List.getD_eq_getElem?_getD, List.getElem?_map]
  cases A.nodes[q.toNat]? <;> rfl
theorem bare_all (A : AU) : allS [] (bare A) = 0 := rfl
theorem bare_turn (G : GR) (A : AU) (x : PP) : turnP G [] (bare A) x = x.turn := by
  unfold turnP
  rw [bare_all, if_neg (by omega)]
theorem bare_next {G : GR} {sets : List (List Bool)} {A : AU} {x y : PP} (hx : isP sets A x = true) : y ∈ nextP G [] (bare A) (base x) ↔ y.turn = 0 ∧ (⟨y.node, y.state, turnP G sets A x⟩ : PP) ∈ nextP G sets A x := by
  have hs : inG A.nodes.length x.state = true := by
    unfold isP at hx
    rw [Bool.and_eq_true] at hx
    exact hx.1
  have hb : isP [] (bare A) (base x) = true := by
    unfold isP
    rw [Bool.and_eq_true]
    constructor
    · show inG (A.nodes.map bareN).length x.state = true
      rw [List.length_map]; exact hs
    · show inG (max 0 1) 0 = true
      rfl
  rw [next_mem, next_mem]
  constructor
  · rintro ⟨_, e, he, q, hq, hr, rfl⟩
    rw [bare_node] at hq hr
    exact ⟨by rw [bare_turn]; rfl, hx, e, he, q, hq, hr, rfl⟩
  · rintro ⟨ht, _, e, he, q, hq, hr, h⟩
    refine ⟨hb, e, he, q, ?_, ?_, ?_⟩
    · rw [bare_node]; exact hq
    · rw [bare_node]; exact hr
    · rw [bare_turn]
      obtain ⟨n, s, t⟩ := y
      cases ht
      injection h with h1 h2 h3
      cases h1
      cases h2
      rfl
end Go.Proofs.Ytmlbjfaofppikaa

namespace Go.Proofs.Ytmlbjfaofppikaa

/-- by one step or more, within L -/
inductive Plus {α : Type} (R : α → α → Prop) (L : α → Prop) (s : α) : α → Prop
  | one {v : α} : R s v → L v → Plus R L s v
  | more {u v : α} : Plus R L s u → R u v → L v → Plus R L s v
theorem Plus.last {α : Type} {R : α → α → Prop} {L : α → Prop} {s v : α} (h : Plus R L s v) : L v := by
  cases h with
  | one _ h => exact h
  | more _ _ h => exact h
theorem Plus.trans {α : Type} {R : α → α → Prop} {L : α → Prop} {s u v : α} (h : Plus R L s u) (k : Plus R L u v) : Plus R L s v := by
  induction k with
  | one a b => exact .more h a b
  | more _ a b ih => exact .more ih a b
/-- there is a first step -/
theorem Plus.first {α : Type} {R : α → α → Prop} {L : α → Prop} {s v : α} (h : Plus R L s v) : ∃ u, R s u ∧ L u ∧ (u = v ∨ Plus R L u v) := by
  induction h with
  | one a b => exact ⟨_, a, b, .inl rfl⟩
  | more _ a b ih =>
    obtain ⟨u, h1, h2, h3⟩ := ih
    refine ⟨u, h1, h2, .inr ?_⟩
    rcases h3 with rfl | h3
    · exact .one a b
    · exact .more h3 a b
/-- the turn behind a pair -/
def turnN {β : Type} (n : Nat) (F : Nat → β → Prop) (v : β) (t t' : Nat) : Prop :=
  (n = 0 ∧ t' = 0) ∨ (0 < n ∧ F t v ∧ t' = (t + 1) % n) ∨ (0 < n ∧ ¬ F t v ∧ t' = t)
/-- a step of both -/
def stepN {β : Type} (n : Nat) (F : Nat → β → Prop) (R : β → β → Prop) (x y : β × Nat) : Prop := R x.1 y.1 ∧ turnN n F x.1 x.2 y.2
/-- In of a product by turns -/
def inN {β : Type} (n : Nat) (F : Nat → β → Prop) (x : β × Nat) : Prop := n = 0 ∨ (x.2 = 0 ∧ F 0 x.1)
def GoodN {β : Type} (n : Nat) (F : Nat → β → Prop) (R : β → β → Prop) (L : β → Prop) : Prop :=
  ∀ v, L v → (∃ w, Plus R L v w) ∧ ∀ i, i < n → ∃ w, Plus R L v w ∧ F i w
def GoodT {β : Type} (n : Nat) (F : Nat → β → Prop) (R : β → β → Prop) (L : β × Nat → Prop) : Prop :=
  ∀ x, L x → ∃ y, Plus (stepN n F R) L x y ∧ inN n F y

theorem Plus.proj {β : Type} {n : Nat} {F : Nat → β → Prop} {R : β → β → Prop} {L : β × Nat → Prop} {x y : β × Nat} (h : Plus (stepN n F R) L x y) : Plus R (fun v => ∃ t, L (v, t)) x.1 y.1 := by
  induction h with
  | one a b => exact .one a.1 ⟨_, b⟩
  | more _ a b ih => exact .more ih a.1 ⟨_, b⟩
/-- the turn stays until its set is met -/
theorem Plus.met {β : Type} {n : Nat} {F : Nat → β → Prop} {R : β → β → Prop} {L : β × Nat → Prop} {x y : β × Nat} (hn : 0 < n) (h : Plus (stepN n F R) L x y) :
    y.2 = x.2 ∨ F x.2 x.1 ∨ ∃ u, Plus (stepN n F R) L x (u, x.2) ∧ F x.2 u := by
  induction h with
  | one a b =>
    rcases a.2 with h | h | h
    · omega
    · exact .inr (.inl h.2.1)
    · exact .inl h.2.2
  | @more u v h a b ih =>
    rcases ih with e | h2 | h2
    · rcases a.2 with k | k | k
      · omega
      · refine .inr (.inr ⟨u.1, ?_, ?_⟩)
        · rw [← e]; exact h
        · rw [← e]; exact k.2.1
      · exact .inl (k.2.2.trans e)
    · exact .inr (.inl h2)
    · exact .inr (.inr h2)
/-- each set is met, by its own turn -/
theorem GoodT.meets {β : Type} {n : Nat} {F : Nat → β → Prop} {R : β → β → Prop} {L : β × Nat → Prop} (h : GoodT n F R L) {x : β × Nat} (hx : L x) : ∀ i, i < n → ∃ u, Plus (stepN n F R) L x (u, i) ∧ F i u
  | 0, hi => by
    obtain ⟨y, h1, h2⟩ := h x hx
    rcases h2 with h2 | ⟨h2, h3⟩
    · omega
    · refine ⟨y.1, ?_, h3⟩
      rw [← h2]; exact h1
  | i + 1, hi => by
    obtain ⟨u, h1, h2⟩ := h.meets hx i (by omega)
    obtain ⟨y, k1, k2⟩ := h _ h1.last
    obtain ⟨z, m1, m2, m3⟩ := k1.first
    have ez : z.2 = i + 1 := by
      rcases m1.2 with k | k | k
      · omega
      · rw [k.2.2]; exact Nat.mod_eq_of_lt hi
      · exact absurd h2 k.2.1
    have hz : Plus (stepN n F R) L x z := .more h1 m1 m2
    have hy : y.2 = 0 := by
      rcases k2 with k2 | k2
      · omega
      · exact k2.1
    rcases m3 with rfl | m3
    · omega
    · rcases m3.met (by omega) with e | e | ⟨w, e1, e2⟩
      · omega
      · refine ⟨z.1, ?_, ?_⟩
        · rw [← ez]; exact hz
        · rw [← ez]; exact e
      · rw [ez] at e1 e2
        exact ⟨w, hz.trans e1, e2⟩
/-- with turns, so without -/
theorem GoodT.goodN {β : Type} {n : Nat} {F : Nat → β → Prop} {R : β → β → Prop} {L : β × Nat → Prop} (h : GoodT n F R L) : GoodN n F R (fun v => ∃ t, L (v, t)) := by
  rintro v ⟨t, hv⟩
  constructor
  · obtain ⟨y, h1, _⟩ := h _ hv
    exact ⟨_, h1.proj⟩
  · intro i hi
    obtain ⟨u, h1, h2⟩ := h.meets hv i hi
    exact ⟨u, h1.proj, h2⟩

/-- the steps without turns, lifted, till the turn's set is met -/
theorem Plus.lift {β : Type} {n : Nat} {F : Nat → β → Prop} {R : β → β → Prop} {L : β → Prop} {v w : β} {t : Nat} (hn : 0 < n) (h : Plus R L v w) :
    F t v ∨ (∃ u, Plus (stepN n F R) (fun x => L x.1) (v, t) (u, t) ∧ F t u) ∨ Plus (stepN n F R) (fun x => L x.1) (v, t) (w, t) := by
  induction h with
  | @one w a b =>
    by_cases hf : F t v
    · exact .inl hf
    · exact .inr (.inr (.one ⟨a, .inr (.inr ⟨hn, hf, rfl⟩)⟩ b))
  | @more u w h a b ih =>
    rcases ih with h1 | h1 | h1
    · exact .inl h1
    · exact .inr (.inl h1)
    · by_cases hf : F t u
      · exact .inr (.inl ⟨u, h1, hf⟩)
      · exact .inr (.inr (.more h1 ⟨a, .inr (.inr ⟨hn, hf, rfl⟩)⟩ b))
/-- the next turn comes -/
theorem GoodN.turn {β : Type} {n : Nat} {F : Nat → β → Prop} {R : β → β → Prop} {L : β → Prop} (h : GoodN n F R L) (hn : 0 < n) {v : β} {t : Nat} (ht : t < n) (hv : L v) :
    ∃ u, Plus (stepN n F R) (fun x => L x.1) (v, t) (u, (t + 1) % n) := by
  have on : ∀ u, L u → F t u → ∃ z, stepN n F R (u, t) (z, (t + 1) % n) ∧ L z := by
    intro u hu hf
    obtain ⟨w, hw⟩ := (h u hu).1
    obtain ⟨z, z1, z2, _⟩ := hw.first
    exact ⟨z, ⟨z1, .inr (.inl ⟨hn, hf, rfl⟩)⟩, z2⟩
  obtain ⟨w, h1, h2⟩ := (h v hv).2 t ht
  rcases h1.lift (F := F) (n := n) (t := t) hn with k | ⟨u, k1, k2⟩ | k
  · obtain ⟨z, z1, z2⟩ := on v hv k
    exact ⟨z, .one z1 z2⟩
  · obtain ⟨z, z1, z2⟩ := on u k1.last k2
    exact ⟨z, .more k1 z1 z2⟩
  · obtain ⟨z, z1, z2⟩ := on w k.last h2
    exact ⟨z, .more k z1 z2⟩
/-- turn 0 comes -/
theorem GoodN.zero {β : Type} {n : Nat} {F : Nat → β → Prop} {R : β → β → Prop} {L : β → Prop} (h : GoodN n F R L) (hn : 0 < n) : ∀ (k t : Nat) (v : β), t < n → k = n - t → L v → ∃ u, Plus (stepN n F R) (fun x => L x.1) (v, t) (u, 0)
  | 0, t, v, ht, hk, hv => by omega
  | k + 1, t, v, ht, hk, hv => by
    obtain ⟨u, hu⟩ := h.turn hn ht hv
    by_cases e : t + 1 = n
    · rw [e, Nat.mod_self] at hu
      exact ⟨u, hu⟩
    · rw [Nat.mod_eq_of_lt (by omega)] at hu
      obtain ⟨z, hz⟩ := h.zero hn k (t + 1) u (by omega) (by omega) hu.last
      exact ⟨z, hu.trans hz⟩
/-- without turns, so with -/
theorem GoodN.goodT {β : Type} {n : Nat} {F : Nat → β → Prop} {R : β → β → Prop} {L : β → Prop} (h : GoodN n F R L) {v : β} {t : Nat} (ht : t < n ∨ n = 0) (hv : L v) :
    ∃ y, Plus (stepN n F R) (fun x => L x.1) (v, t) y ∧ inN n F y := by
  by_cases hn : n = 0
  · obtain ⟨w, hw⟩ := (h v hv).1
    obtain ⟨z, z1, z2, _⟩ := hw.first
    exact ⟨(z, 0), .one ⟨z1, .inl ⟨hn, rfl⟩⟩ z2, .inl hn⟩
  · have hp : 0 < n := by omega
    obtain ⟨u, hu⟩ := h.zero hp (n - t) t v (by omega) rfl hv
    obtain ⟨w, h1, h2⟩ := (h u hu.last).2 0 hp
    rcases h1.lift (F := F) (n := n) (t := 0) hp with k | ⟨z, k1, k2⟩ | k
    · exact ⟨_, hu, .inr ⟨rfl, k⟩⟩
    · exact ⟨_, hu.trans k1, .inr ⟨rfl, k2⟩⟩
    · exact ⟨_, hu.trans k, .inr ⟨rfl, h2⟩⟩
end Go.Proofs.Ytmlbjfaofppikaa

namespace Go.Proofs.Ytmlbjfaofppikaa

theorem tgts_at {l : List PP} {es : List (List PR)} {nx : PP → List PP} (hlen : es.length = l.length) (hr : ∀ (k : Nat) (x : PP) (r : List PR), l[k]? = some x → es[k]? = some r → NextAt l r (nx x)) {k : Nat} {x : PP} (hk : l[k]? = some x) :
    (∀ v : Nat, (v : Int) ∈ tgts es k → ∃ y, y ∈ nx x ∧ l[v]? = some y) ∧ ∀ y ∈ nx x, ∃ v : Nat, (v : Int) ∈ tgts es k ∧ l[v]? = some y := by
  have hk1 := (List.getElem?_eq_some_iff.1 hk).1
  have he : es[k]? = some es[k] := List.getElem?_eq_getElem (by omega)
  have hn := hr k x es[k] hk he
  have et : tgts es k = es[k].map (·.1) := by
    unfold tgts
    rw [List.getD_eq_getElem?_getD, he]
    rfl
  rw [et]
  constructor
  · intro v hv
    obtain ⟨q, hq, e⟩ := List.mem_map.1 hv
    obtain ⟨j, hj⟩ := List.getElem?_of_mem hq
    have hj1 := (List.getElem?_eq_some_iff.1 hj).1
    have hj2 : j < (nx x).length := by rw [← hn.1]; exact hj1
    have hy : (nx x)[j]? = some (nx x)[j] := List.getElem?_eq_getElem hj2
    obtain ⟨i, a, h1, h2⟩ := hn.2 j _ hy
    rw [hj] at h1
    have e2 : q = ((i : Int), a) := Option.some.inj h1
    rw [e2] at e
    have e4 : (i : Int) = (v : Int) := e
    have e3 : i = v := Int.ofNat.inj e4
    exact ⟨_, List.getElem_mem _, e3 ▸ h2⟩
  · intro y hy
    obtain ⟨j, hj⟩ := List.getElem?_of_mem hy
    obtain ⟨i, a, h1, h2⟩ := hn.2 j y hj
    exact ⟨i, List.mem_map.2 ⟨_, List.mem_of_getElem? h1, rfl⟩, h2⟩
/-- good, told of pairs -/
def GoodR (l : List PP) (nx : PP → List PP) (Fp : List (PP → Bool)) (L : PP → Prop) : Prop :=
  ∀ x, L x → x ∈ l ∧ (∃ y, Plus (fun x y => y ∈ nx x) L x y) ∧ ∀ p ∈ Fp, ∃ y, Plus (fun x y => y ∈ nx x) L x y ∧ p y = true
theorem someR {l : List PP} {es : List (List PR)} {nx : PP → List PP} (hlen : es.length = l.length) (hr : ∀ (k : Nat) (x : PP) (r : List PR), l[k]? = some x → es[k]? = some r → NextAt l r (nx x)) (init : List Int) (Fp : List (PP → Bool)) :
    SomeP init es (Fp.map fun p => l.map p) ↔ ∃ L : PP → Prop, GoodR l nx Fp L ∧ ∃ i ∈ init, ∃ v : Nat, i = (v : Int) ∧ ∃ x, l[v]? = some x ∧ L x := by
  have hFp : ∀ (p : PP → Bool) (v : Nat) (y : PP), l[v]? = some y → (l.map p).getD v false = p y := by
    intro p v y h
    rw [List.getD_eq_getElem?_getD, List.getElem?_map, h]
    rfl
  constructor
  · rintro ⟨L, hL, i, hi, v, e, hv⟩
    have walk : ∀ {s v : Nat} {x : PP}, l[s]? = some x → RLeft es L s v → ∃ y, l[v]? = some y ∧ Plus (fun x y => y ∈ nx x) (fun x => ∃ k, l[k]? = some x ∧ L k = true) x y := by
      intro s v x hs h
      induction h with
      | one h1 h2 h3 =>
        obtain ⟨y, k1, k2⟩ := (tgts_at hlen hr hs).1 _ h1
        exact ⟨y, k2, .one k1 ⟨_, k2, h3⟩⟩
      | more h h1 h2 h3 ih =>
        obtain ⟨u, u1, u2⟩ := ih
        obtain ⟨y, k1, k2⟩ := (tgts_at hlen hr u1).1 _ h1
        exact ⟨y, k2, .more u2 k1 ⟨_, k2, h3⟩⟩
    refine ⟨fun x => ∃ k, l[k]? = some x ∧ L k = true, ?_, i, hi, v, e, ?_⟩
    · rintro x ⟨k, hk, hLk⟩
      obtain ⟨_, ⟨w, hw⟩, hF⟩ := hL k hLk
      refine ⟨List.mem_of_getElem? hk, ?_, fun p hp => ?_⟩
      · obtain ⟨y, _, h⟩ := walk hk hw
        exact ⟨y, h⟩
      · obtain ⟨u, hu, hu2⟩ := hF _ (List.mem_map.2 ⟨p, hp, rfl⟩)
        obtain ⟨y, hy, h⟩ := walk hk hu
        rw [hFp p u y hy] at hu2
        exact ⟨y, h, hu2⟩
    · have hl := (hL v hv).1
      rw [hlen] at hl
      exact ⟨l[v], List.getElem?_eq_getElem hl, v, List.getElem?_eq_getElem hl, hv⟩
  · rintro ⟨L, hL, i, hi, v, e, x, hx, hLx⟩
    have hd : ∀ k : Nat, ∃ b : Bool, b = true ↔ ∃ x, l[k]? = some x ∧ L x := fun k => by
      by_cases h : ∃ x, l[k]? = some x ∧ L x
      · exact ⟨true, by simp [h]⟩
      · exact ⟨false, by simp [h]⟩
    obtain ⟨B, hB⟩ : ∃ B : Nat → Bool, ∀ k, B k = true ↔ ∃ x, l[k]? = some x ∧ L x := ⟨fun k => Classical.choose (hd k), fun k => Classical.choose_spec (hd k)⟩
    have walk : ∀ {s : Nat} {x y : PP}, l[s]? = some x → Plus (fun x y => y ∈ nx x) L x y → ∃ v, l[v]? = some y ∧ RLeft es B s v := by
      intro s x y hs h
      induction h with
      | one h1 h2 =>
        obtain ⟨v, k1, k2⟩ := (tgts_at hlen hr hs).2 _ h1
        exact ⟨v, k2, .one k1 (by rw [hlen]; exact (List.getElem?_eq_some_iff.1 k2).1) ((hB v).2 ⟨_, k2, h2⟩)⟩
      | more h h1 h2 ih =>
        obtain ⟨u, u1, u2⟩ := ih
        obtain ⟨v, k1, k2⟩ := (tgts_at hlen hr u1).2 _ h1
        exact ⟨v, k2, .more u2 k1 (by rw [hlen]; exact (List.getElem?_eq_some_iff.1 k2).1) ((hB v).2 ⟨_, k2, h2⟩)⟩
    refine ⟨B, fun k hk => ?_, i, hi, v, e, (hB v).2 ⟨x, hx, hLx⟩⟩
    obtain ⟨z, hz, hLz⟩ := (hB k).1 hk
    obtain ⟨_, ⟨y, hy⟩, hF⟩ := hL z hLz
    refine ⟨by rw [hlen]; exact (List.getElem?_eq_some_iff.1 hz).1, ?_, fun F hFm => ?_⟩
    · obtain ⟨v, _, h⟩ := walk hz hy
      exact ⟨v, h⟩
    · obtain ⟨p, hp, rfl⟩ := List.mem_map.1 hFm
      obtain ⟨y, hy, hpy⟩ := hF p hp
      obtain ⟨v, hv, h⟩ := walk hz hy
      exact ⟨v, h, by rw [hFp p v y hv]; exact hpy⟩
end Go.Proofs.Ytmlbjfaofppikaa
