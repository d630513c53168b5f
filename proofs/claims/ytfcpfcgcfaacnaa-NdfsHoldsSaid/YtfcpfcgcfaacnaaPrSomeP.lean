/- The whole product and ways for ever in it, plain. No conditions. -/
import Derived.Test.YtfcpfcgcfaacnaaPrWholeP
import Derived.Test.YtfcpfcgcfaacnaaPrIn
namespace Go.Proofs.Ytfcpfcgcfaacnaa

theorem wholeL_len {G : GR} {sets : List (List Bool)} {A : AU} {most : Int} (lt : Lt G sets A) : ∀ (f i : Nat) (s s' : WR), i ≤ s.l.length → s.es.length = i → s.labs.length = i → s.ins.length = i → (∀ r ∈ s.es, r.length ≤ 144) → wholeL G sets A most f i s = some s' →
    s'.es.length = s'.l.length ∧ s'.labs.length = s'.l.length ∧ s'.ins.length = s'.l.length ∧ s'.l.length ≤ i + f ∧ ∀ r ∈ s'.es, r.length ≤ 144
  | 0, _, _, _, _, _, _, _, _, h => by simp [wholeL] at h
  | f + 1, i, s, s', hi, h1, h2, h3, h4, h => by
    by_cases hl : i < s.l.length
    · by_cases hm : most < (s.l.length : Int)
      · rw [wholeL_more hl hm] at h
        cases h
      · rw [wholeL_step hl hm] at h
        have hr := rowQ_len G sets A s.l[i] s.l (nextP G sets A s.l[i])
        have := wholeL_len lt f (i + 1) (stepW G sets A s.l[i] s) s' (by show i + 1 ≤ (rowQ G sets A s.l[i] s.l (nextP G sets A s.l[i])).1.length; omega) (by simp [stepW, h1]) (by simp [stepW, h2]) (by simp [stepW, h3]) (by
          intro r hr
          simp only [stepW, List.mem_append, List.mem_singleton] at hr
          rcases hr with hr | rfl
          · exact h4 r hr
          · rw [rowQ_row]
            exact nextP_len lt _) h
        obtain ⟨a, b, c, d, e⟩ := this
        exact ⟨a, b, c, by omega, e⟩
    · rw [wholeL_end hl] at h
      cases h
      exact ⟨by omega, by omega, by omega, by omega, h4⟩
/-- the whole product, no more than this -/
theorem wholeP_len {G : GR} {sets : List (List Bool)} {A : AU} (lt : Lt G sets A) (m : Int) :
    (wholeP G sets A m).2.1.length ≤ 1000000 ∧ (wholeP G sets A m).2.2.es.length ≤ 1000000 ∧ (wholeP G sets A m).2.2.labs.length ≤ 1000000 ∧ (wholeP G sets A m).2.2.ins.length ≤ 1000000 ∧ (wholeP G sets A m).2.2.l.length ≤ 1000000 ∧ ∀ r ∈ (wholeP G sets A m).2.2.es, r.length ≤ 1000000 := by
  unfold wholeP
  by_cases hn : newB G sets A = true
  · rw [if_pos hn]
    by_cases hm : m < 0
    · rw [if_pos hm]
      simp
    · rw [if_neg hm]
      cases hw : wholeL G sets A (most' m) 65540 0 ⟨firstP G A, [], [], []⟩ with
      | none => simp
      | some s =>
        obtain ⟨h1, h2, h3, h4, h5⟩ := wholeL_len lt 65540 0 ⟨firstP G A, [], [], []⟩ s (Nat.zero_le _) rfl rfl rfl (by simp) hw
        have h6 := firstP_len lt
        refine ⟨?_, ?_, ?_, ?_, ?_, fun r hr => ?_⟩
        · show (upTo _).length ≤ _
          rw [upTo_len]
          omega
        · show s.es.length ≤ _
          omega
        · show s.labs.length ≤ _
          omega
        · show s.ins.length ≤ _
          omega
        · show s.l.length ≤ _
          omega
        · have := h5 r hr
          omega
  · rw [if_neg hn]
    simp
end Go.Proofs.Ytfcpfcgcfaacnaa

namespace Go.Proofs.Ytfcpfcgcfaacnaa

/-- the edges' ends, of one node -/
def tgts (es : List (List PR)) (u : Nat) : List Int := (es.getD u []).map (·.1)
/-- from s on, within what is left, by one edge or more -/
inductive RLeft (es : List (List PR)) (left : Nat → Bool) (s : Nat) : Nat → Prop
  | one {v : Nat} : (v : Int) ∈ tgts es s → v < es.length → left v = true → RLeft es left s v
  | more {u v : Nat} : RLeft es left s u → (v : Int) ∈ tgts es u → v < es.length → left v = true → RLeft es left s v
/-- to each of sets, and to any -/
def GoesP (es : List (List PR)) (Fs : List (List Bool)) (left : Nat → Bool) (s : Nat) : Prop :=
  (∃ v, RLeft es left s v) ∧ ∀ F ∈ Fs, ∃ v, RLeft es left s v ∧ F.getD v false = true
theorem RLeft.mono {es : List (List PR)} {l1 l2 : Nat → Bool} {s v : Nat} (h : RLeft es l1 s v) (hl : ∀ v, l1 v = true → l2 v = true) : RLeft es l2 s v := by
  induction h with
  | one h1 h2 h3 => exact .one h1 h2 (hl _ h3)
  | more _ h1 h2 h3 ih => exact .more ih h1 h2 (hl _ h3)
theorem GoesP.mono {es : List (List PR)} {Fs : List (List Bool)} {l1 l2 : Nat → Bool} {s : Nat} (h : GoesP es Fs l1 s) (hl : ∀ v, l1 v = true → l2 v = true) : GoesP es Fs l2 s :=
  ⟨h.1.imp fun _ h => h.mono hl, fun F hF => (h.2 F hF).imp fun _ h => ⟨h.1.mono hl, h.2⟩⟩
theorem RLeft.lt {es : List (List PR)} {left : Nat → Bool} {s v : Nat} (h : RLeft es left s v) : v < es.length ∧ left v = true := by
  cases h with
  | one h1 h2 h3 => exact ⟨h2, h3⟩
  | more _ h1 h2 h3 => exact ⟨h2, h3⟩
theorem RLeft.trans {es : List (List PR)} {left : Nat → Bool} {s u v : Nat} (h : RLeft es left s u) (k : RLeft es left u v) : RLeft es left s v := by
  induction k with
  | one h1 h2 h3 => exact .more h h1 h2 h3
  | more _ h1 h2 h3 ih => exact .more ih h1 h2 h3
/-- each of its nodes leads on within it -/
def GoodL (es : List (List PR)) (Fs : List (List Bool)) (L : Nat → Bool) : Prop := ∀ v, L v = true → v < es.length ∧ GoesP es Fs L v
/-- a way that goes on for ever begins with one of init -/
def SomeP (init : List Int) (es : List (List PR)) (Fs : List (List Bool)) : Prop :=
  ∃ L : Nat → Bool, GoodL es Fs L ∧ ∃ i ∈ init, ∃ v : Nat, i = (v : Int) ∧ L v = true
/-- what no step strikes holds all that is good -/
theorem SomeP.of_end {init : List Int} {es : List (List PR)} {Fs : List (List Bool)} {left : Nat → Bool} (h1 : ∀ L, GoodL es Fs L → ∀ v, L v = true → left v = true) (h2 : GoodL es Fs left) : (∃ i ∈ init, ∃ v : Nat, i = (v : Int) ∧ left v = true) ↔ SomeP init es Fs := by
  constructor
  · rintro ⟨i, hi, v, e, hv⟩
    exact ⟨left, h2, i, hi, v, e, hv⟩
  · rintro ⟨L, hL, i, hi, v, e, hv⟩
    exact ⟨i, hi, v, e, h1 L hL v hv⟩
/-- a strike keeps all that is good -/
theorem GoodL.strike {es : List (List PR)} {Fs : List (List Bool)} {left : Nat → Bool} {i : Nat} (h : ∀ L, GoodL es Fs L → ∀ v, L v = true → left v = true) (hn : ¬ GoesP es Fs left i) : ∀ L, GoodL es Fs L → ∀ v, L v = true → (decide (v ≠ i) && left v) = true := by
  intro L hL v hv
  have hne : v ≠ i := by
    rintro rfl
    exact hn ((hL v hv).2.mono (h L hL))
  rw [decide_eq_true hne, h L hL v hv]
  rfl
end Go.Proofs.Ytfcpfcgcfaacnaa

namespace Go.Proofs.Ytfcpfcgcfaacnaa

/-- all that a node leads to is seen -/
def ShutP (es : List (List PR)) (left : Nat → Bool) (seen : List Bool) (l : List Int) : Prop := ∀ v : Nat, (v : Int) ∈ l → v < es.length → left v = true → seen.getD v false = true
/-- between two nodes -/
structure GOut (es : List (List PR)) (left : Nat → Bool) (s : Nat) (seen : List Bool) (todo : List Nat) : Prop where
  len : seen.length = es.length
  ok : ∀ v, seen.getD v false = true → RLeft es left s v
  cls : ∀ u, (u = s ∨ seen.getD u false = true) → u ∈ todo ∨ ShutP es left seen (tgts es u)
  td : ∀ u ∈ todo, u < es.length ∧ (u = s ∨ seen.getD u false = true)
/-- within a node n, its first k edges done -/
structure GIn (es : List (List PR)) (left : Nat → Bool) (s : Nat) (seen : List Bool) (todo : List Nat) (n k : Nat) : Prop where
  len : seen.length = es.length
  ok : ∀ v, seen.getD v false = true → RLeft es left s v
  cls : ∀ u, (u = s ∨ seen.getD u false = true) → u ∈ todo ∨ u = n ∨ ShutP es left seen (tgts es u)
  td : ∀ u ∈ todo, u < es.length ∧ (u = s ∨ seen.getD u false = true)
  me : n = s ∨ seen.getD n false = true
  row : ShutP es left seen ((tgts es n).take k)
theorem GOut.start {es : List (List PR)} {left : Nat → Bool} {s : Nat} (hs : s < es.length) : GOut es left s (List.replicate es.length false) [s] := by
  have e : ∀ v, (List.replicate es.length false).getD v false = false := by
    intro v
    rw [List.getD_eq_getElem?_getD, List.getElem?_replicate]
    split <;> rfl
  refine ⟨List.length_replicate, fun v h => ?_, fun u h => ?_, fun u h => ?_⟩
  · rw [e] at h; cases h
  · rcases h with rfl | h
    · exact .inl (List.mem_singleton.2 rfl)
    · rw [e] at h; cases h
  · rw [List.mem_singleton] at h
    exact ⟨h ▸ hs, .inl h⟩
theorem GOut.pop {es : List (List PR)} {left : Nat → Bool} {s n : Nat} {seen : List Bool} {todo : List Nat} (h : GOut es left s seen (n :: todo)) : GIn es left s seen todo n 0 := by
  refine ⟨h.len, h.ok, fun u hu => ?_, fun u hu => h.td u (.tail _ hu), (h.td n (.head _)).2, fun v hv => ?_⟩
  · rcases h.cls u hu with k | k
    · rcases List.mem_cons.1 k with k | k
      · exact .inr (.inl k)
      · exact .inl k
    · exact .inr (.inr k)
  · simp at hv
theorem take_put {l : List Int} {k : Nat} {t : Int} (hk : l[k]? = some t) {v : Int} (h : v ∈ l.take (k + 1)) : v ∈ l.take k ∨ v = t := by
  rw [List.take_add_one, hk] at h
  rcases List.mem_append.1 h with h | h
  · exact .inl h
  · exact .inr (by simpa using h)
theorem GIn.skip {es : List (List PR)} {left : Nat → Bool} {s n k : Nat} {seen : List Bool} {todo : List Nat} {t : Int} (h : GIn es left s seen todo n k) (hk : (tgts es n)[k]? = some t)
    (hn : ∀ v : Nat, t = (v : Int) → v < es.length → left v = true → seen.getD v false = true) : GIn es left s seen todo n (k + 1) := by
  refine ⟨h.len, h.ok, h.cls, h.td, h.me, fun v hv h1 h2 => ?_⟩
  rcases take_put hk hv with hv | hv
  · exact h.row v hv h1 h2
  · exact hn v hv.symm h1 h2
theorem seen_set {seen : List Bool} {v u : Nat} (h : seen.getD u false = true) : (seen.set v true).getD u false = true := by
  rw [List.getD_eq_getElem?_getD] at h ⊢
  rw [List.getElem?_set]
  split
  · split
    · rfl
    · rename_i e h2
      subst e
      rw [List.getElem?_eq_none (by omega)] at h
      cases h
  · exact h
theorem seen_new {seen : List Bool} {v : Nat} (h : v < seen.length) : (seen.set v true).getD v false = true := by
  rw [List.getD_eq_getElem?_getD, List.getElem?_set, if_pos rfl, if_pos h]
  rfl
theorem seen_old {seen : List Bool} {v u : Nat} (h : (seen.set v true).getD u false = true) : u = v ∨ seen.getD u false = true := by
  by_cases e : v = u
  · exact .inl e.symm
  · rw [List.getD_eq_getElem?_getD, List.getElem?_set, if_neg e, ← List.getD_eq_getElem?_getD] at h
    exact .inr h
theorem GIn.push {es : List (List PR)} {left : Nat → Bool} {s n k v : Nat} {seen : List Bool} {todo : List Nat} (h : GIn es left s seen todo n k) (hk : (tgts es n)[k]? = some (v : Int)) (hv : v < es.length) (hl : left v = true) :
    GIn es left s (seen.set v true) (todo ++ [v]) n (k + 1) := by
  have hm : (v : Int) ∈ tgts es n := List.mem_of_getElem? hk
  refine ⟨by rw [List.length_set, h.len], fun u hu => ?_, fun u hu => ?_, fun u hu => ?_, ?_, fun u hu h1 h2 => ?_⟩
  · rcases seen_old hu with rfl | hu
    · rcases h.me with rfl | hn
      · exact .one hm hv hl
      · exact .more (h.ok n hn) hm hv hl
    · exact h.ok u hu
  · by_cases e : u = v
    · exact .inl (List.mem_append.2 (.inr (List.mem_singleton.2 e)))
    · have hu' : u = s ∨ seen.getD u false = true := by
        rcases hu with hu | hu
        · exact .inl hu
        · rcases seen_old hu with hu | hu
          · exact absurd hu e
          · exact .inr hu
      rcases h.cls u hu' with k1 | k1 | k1
      · exact .inl (List.mem_append.2 (.inl k1))
      · exact .inr (.inl k1)
      · exact .inr (.inr fun w hw h1 h2 => seen_set (k1 w hw h1 h2))
  · rcases List.mem_append.1 hu with hu | hu
    · exact ⟨(h.td u hu).1, (h.td u hu).2.imp id seen_set⟩
    · rw [List.mem_singleton] at hu
      subst hu
      exact ⟨hv, .inr (seen_new (by rw [h.len]; exact hv))⟩
  · exact h.me.imp id seen_set
  · rcases take_put hk hu with hu | hu
    · exact seen_set (h.row u hu h1 h2)
    · have e : u = v := by exact_mod_cast hu
      rw [e]
      exact seen_new (by rw [h.len]; exact hv)
theorem GIn.out {es : List (List PR)} {left : Nat → Bool} {s n k : Nat} {seen : List Bool} {todo : List Nat} (h : GIn es left s seen todo n k) (hk : (tgts es n).length ≤ k) : GOut es left s seen todo := by
  refine ⟨h.len, h.ok, fun u hu => ?_, h.td⟩
  rcases h.cls u hu with k1 | k1 | k1
  · exact .inl k1
  · subst k1
    have hr := h.row
    rw [List.take_of_length_le hk] at hr
    exact .inr hr
  · exact .inr k1
theorem GOut.done {es : List (List PR)} {left : Nat → Bool} {s : Nat} {seen : List Bool} (h : GOut es left s seen []) (v : Nat) : seen.getD v false = true ↔ RLeft es left s v := by
  refine ⟨h.ok v, fun hv => ?_⟩
  have sh : ∀ u, (u = s ∨ seen.getD u false = true) → ShutP es left seen (tgts es u) := fun u hu => (h.cls u hu).resolve_left (by simp)
  induction hv with
  | one h1 h2 h3 => exact sh s (.inl rfl) _ h1 h2 h3
  | more _ h1 h2 h3 ih => exact sh _ (.inr ih) _ h1 h2 h3
/-- what is not seen -/
def unseen (seen : List Bool) : Nat := (seen.filter (!·)).length
theorem unseen_le (seen : List Bool) : unseen seen ≤ seen.length := List.length_filter_le _ _
theorem unseen_set : ∀ {seen : List Bool} {v : Nat}, v < seen.length → seen.getD v false = false → unseen (seen.set v true) + 1 = unseen seen
  | [], _, h, _ => by simp at h
  | b :: l, 0, _, h2 => by
    have e : b = false := by simpa using h2
    subst e
    simp [unseen]
  | b :: l, v + 1, h, h2 => by
    have := unseen_set (seen := l) (v := v) (by simpa using h) (by simpa using h2)
    cases b <;> simp [unseen] at this ⊢ <;> omega
end Go.Proofs.Ytfcpfcgcfaacnaa

namespace Go.Proofs.Ytfcpfcgcfaacnaa

/-- where a pair's number is, there it is -/
theorem numQ_at (l : List PP) (x : PP) : (numQ l x).1[(numQ l x).2]? = some x := by
  unfold numQ
  split
  · rename_i h
    show l[l.idxOf x]? = some x
    rw [List.getElem?_eq_getElem (List.idxOf_lt_length_of_mem h)]
    simp
  · simp
/-- a row tells the numbers of the next pairs -/
def NextAt (l : List PP) (r : List PR) (ys : List PP) : Prop := r.length = ys.length ∧ ∀ (j : Nat) (y : PP), ys[j]? = some y → ∃ (i : Nat) (a : Int), r[j]? = some ((i : Int), a) ∧ l[i]? = some y
theorem NextAt.mono {l l' : List PP} {r : List PR} {ys : List PP} (h : NextAt l r ys) (hl : ∀ (i : Nat) (y : PP), l[i]? = some y → l'[i]? = some y) : NextAt l' r ys := by
  refine ⟨h.1, fun j y hj => ?_⟩
  obtain ⟨i, a, h1, h2⟩ := h.2 j y hj
  exact ⟨i, a, h1, hl _ _ h2⟩
theorem rowQ_at_go (G : GR) (sets : List (List Bool)) (A : AU) (x : PP) : ∀ (ys : List PP) (s : List PP × List PR) (done : List PP), NextAt s.1 s.2 done →
    NextAt (ys.foldl (rowStep G sets A x) s).1 (ys.foldl (rowStep G sets A x) s).2 (done ++ ys)
  | [], s, done, h => by simpa using h
  | y :: ys, s, done, h => by
    rw [List.foldl_cons]
    have := rowQ_at_go G sets A x ys (rowStep G sets A x s y) (done ++ [y]) ?_
    · simpa using this
    · refine ⟨by simp [rowStep, h.1], fun j z hz => ?_⟩
      by_cases hj : j < done.length
      · rw [List.getElem?_append_left hj] at hz
        obtain ⟨i, a, h1, h2⟩ := h.2 j z hz
        refine ⟨i, a, ?_, ?_⟩
        · show (s.2 ++ _)[j]? = _
          rw [List.getElem?_append_left (by rw [h.1]; exact hj)]
          exact h1
        · have hi : i < s.1.length := (List.getElem?_eq_some_iff.1 h2).1
          show (numQ s.1 y).1[i]? = some z
          rw [numQ_old hi, ← List.getElem?_eq_getElem hi, h2]
      · have hz2 : j = done.length ∧ z = y := by
          rw [List.getElem?_append_right (by omega)] at hz
          have hl := (List.getElem?_eq_some_iff.1 hz).1
          have e : j - done.length = 0 := by simp at hl; omega
          rw [e] at hz
          exact ⟨by omega, by simpa using hz.symm⟩
        obtain ⟨rfl, rfl⟩ := hz2
        refine ⟨(numQ s.1 z).2, actP (edgeP G sets A x z), ?_, numQ_at _ _⟩
        show (s.2 ++ _)[done.length]? = _
        rw [← h.1]
        simp
theorem rowQ_at (G : GR) (sets : List (List Bool)) (A : AU) (x : PP) (l ys : List PP) : NextAt (rowQ G sets A x l ys).1 (rowQ G sets A x l ys).2 ys := by
  exact rowQ_at_go G sets A x ys (l, []) [] ⟨rfl, by simp⟩
/-- the whole product's rows tell the numbers of all next pairs -/
theorem wholeL_rows {G : GR} {sets : List (List Bool)} {A : AU} {most : Int} : ∀ (f i : Nat) (s s' : WR), i ≤ s.l.length → s.es.length = i → (∀ (k : Nat) (x : PP) (r : List PR), s.l[k]? = some x → s.es[k]? = some r → NextAt s.l r (nextP G sets A x)) → wholeL G sets A most f i s = some s' →
    s'.es.length = s'.l.length ∧ (∀ (k : Nat) (x : PP), s.l[k]? = some x → s'.l[k]? = some x) ∧ ∀ (k : Nat) (x : PP) (r : List PR), s'.l[k]? = some x → s'.es[k]? = some r → NextAt s'.l r (nextP G sets A x)
  | 0, _, _, _, _, _, _, h => by simp [wholeL] at h
  | f + 1, i, s, s', hi, h1, h2, h => by
    by_cases hl : i < s.l.length
    · by_cases hm : most < (s.l.length : Int)
      · rw [wholeL_more hl hm] at h
        cases h
      · rw [wholeL_step hl hm] at h
        have old : ∀ (k : Nat) (x : PP), s.l[k]? = some x → (rowQ G sets A s.l[i] s.l (nextP G sets A s.l[i])).1[k]? = some x := by
          intro k x hk
          obtain ⟨hk1, hk2⟩ := List.getElem?_eq_some_iff.1 hk
          rw [rowQ_old G sets A s.l[i] s.l _ hk1, hk2]
        have lenle : s.l.length ≤ (rowQ G sets A s.l[i] s.l (nextP G sets A s.l[i])).1.length := by
          have := old (s.l.length - 1) s.l[s.l.length - 1] (List.getElem?_eq_getElem (by omega))
          have := (List.getElem?_eq_some_iff.1 this).1
          omega
        have hrows : ∀ (k : Nat) (x : PP) (r : List PR), (stepW G sets A s.l[i] s).l[k]? = some x → (stepW G sets A s.l[i] s).es[k]? = some r → NextAt (stepW G sets A s.l[i] s).l r (nextP G sets A x) := by
          intro k x r hk hr
          have hk' : (rowQ G sets A s.l[i] s.l (nextP G sets A s.l[i])).1[k]? = some x := hk
          have hr' : (s.es ++ [(rowQ G sets A s.l[i] s.l (nextP G sets A s.l[i])).2])[k]? = some r := hr
          show NextAt (rowQ G sets A s.l[i] s.l (nextP G sets A s.l[i])).1 r (nextP G sets A x)
          by_cases hki : k < i
          · rw [List.getElem?_append_left (by omega)] at hr'
            have hks : k < s.l.length := by omega
            have e : s.l[k]? = some x := by
              rw [rowQ_old G sets A s.l[i] s.l _ hks] at hk'
              rw [List.getElem?_eq_getElem hks, hk']
            exact (h2 k x r e hr').mono old
          · have hlen := (List.getElem?_eq_some_iff.1 hr').1
            have e : k = i := by simp [h1] at hlen; omega
            subst e
            have er : r = (rowQ G sets A s.l[k] s.l (nextP G sets A s.l[k])).2 := by
              rw [List.getElem?_append_right (by omega)] at hr'
              have e0 : k - s.es.length = 0 := by omega
              rw [e0] at hr'
              exact (Option.some.inj hr').symm
            have ex : x = s.l[k] := by
              rw [rowQ_old G sets A s.l[k] s.l _ hl] at hk'
              exact (Option.some.inj hk').symm
            rw [er, ex]
            exact rowQ_at G sets A _ _ _
        obtain ⟨r1, r2, r3⟩ := wholeL_rows f (i + 1) (stepW G sets A s.l[i] s) s' (by show i + 1 ≤ (rowQ G sets A s.l[i] s.l (nextP G sets A s.l[i])).1.length; omega) (by simp [stepW, h1]) hrows h
        exact ⟨r1, fun k x hk => r2 k x (old k x hk), r3⟩
    · rw [wholeL_end hl] at h
      cases h
      exact ⟨by omega, fun _ _ h => h, h2⟩
end Go.Proofs.Ytfcpfcgcfaacnaa

namespace Go.Proofs.Ytfcpfcgcfaacnaa

theorem addP_mem {l : List PP} {x y : PP} : y ∈ addP l x ↔ y ∈ l ∨ y = x := by
  unfold addP
  split
  · rename_i h
    constructor
    · exact .inl
    · rintro (h1 | rfl)
      · exact h1
      · first | exact h | simpa using h
  · simp
theorem pairsP_mem {A : AU} {lab : Nat} {node turn : Int} {y : PP} : ∀ {states : List Int} {out : List PP}, y ∈ pairsP A lab node turn out states ↔ y ∈ out ∨ ∃ q ∈ states, readsB (nodeP A q) lab = true ∧ y = ⟨node, q, turn⟩
  | [], out => by simp [pairsP]
  | q :: qs, out => by
    have ih := pairsP_mem (A := A) (lab := lab) (node := node) (turn := turn) (y := y) (states := qs) (out := if readsB (nodeP A q) lab then addP out ⟨node, q, turn⟩ else out)
    show y ∈ pairsP A lab node turn (if readsB (nodeP A q) lab then addP out ⟨node, q, turn⟩ else out) qs ↔ _
    rw [ih]
    by_cases hr : readsB (nodeP A q) lab = true
    · rw [if_pos hr, addP_mem]
      constructor
      · rintro ((h | h) | ⟨p, h1, h2⟩)
        · exact .inl h
        · exact .inr ⟨q, .head _, hr, h⟩
        · exact .inr ⟨p, .tail _ h1, h2⟩
      · rintro (h | ⟨p, h1, h2, h3⟩)
        · exact .inl (.inl h)
        · rcases List.mem_cons.1 h1 with rfl | h1
          · exact .inl (.inr h3)
          · exact .inr ⟨p, h1, h2, h3⟩
    · rw [if_neg hr]
      constructor
      · rintro (h | ⟨p, h1, h2⟩)
        · exact .inl h
        · exact .inr ⟨p, .tail _ h1, h2⟩
      · rintro (h | ⟨p, h1, h2, h3⟩)
        · exact .inl h
        · rcases List.mem_cons.1 h1 with rfl | h1
          · exact absurd h2 hr
          · exact .inr ⟨p, h1, h2, h3⟩
theorem folds_mem {α : Type} {A : AU} (lab : α → Nat) (node : α → Int) (turn : Int) (states : List Int) {y : PP} : ∀ {es : List α} {out : List PP},
    y ∈ es.foldl (fun out e => pairsP A (lab e) (node e) turn out states) out ↔ y ∈ out ∨ ∃ e ∈ es, ∃ q ∈ states, readsB (nodeP A q) (lab e) = true ∧ y = ⟨node e, q, turn⟩
  | [], out => by simp
  | e :: es, out => by
    rw [List.foldl_cons, folds_mem lab node turn states, pairsP_mem]
    constructor
    · rintro ((h | h) | ⟨p, h1, h2⟩)
      · exact .inl h
      · exact .inr ⟨e, .head _, h⟩
      · exact .inr ⟨p, .tail _ h1, h2⟩
    · rintro (h | ⟨p, h1, h2⟩)
      · exact .inl (.inl h)
      · rcases List.mem_cons.1 h1 with rfl | h1
        · exact .inl (.inr h2)
        · exact .inr ⟨p, h1, h2⟩
theorem next_mem {G : GR} {sets : List (List Bool)} {A : AU} {x y : PP} : y ∈ nextP G sets A x ↔ isP sets A x = true ∧ ∃ e ∈ edgesP G x.node, ∃ q ∈ (nodeP A x.state).to, readsB (nodeP A q) (labP G e.1) = true ∧ y = ⟨e.1, q, turnP G sets A x⟩ := by
  unfold nextP
  by_cases h : isP sets A x = true
  · rw [if_pos h]
    have k := folds_mem (A := A) (fun e : PR => labP G e.1) (fun e : PR => e.1) (turnP G sets A x) (nodeP A x.state).to (y := y) (es := edgesP G x.node) (out := [])
    simp only [List.not_mem_nil, false_or] at k
    rw [k]
    exact ⟨fun z => ⟨h, z⟩, fun z => z.2⟩
  · rw [if_neg h]
    simp [h]
theorem first_mem {G : GR} {A : AU} {y : PP} : y ∈ firstP G A ↔ ∃ n ∈ G.init, ∃ q ∈ A.init, readsB (nodeP A q) (labP G n) = true ∧ y = ⟨n, q, 0⟩ := by
  have k := folds_mem (A := A) (fun n : Int => labP G n) (fun n : Int => n) 0 A.init (y := y) (es := G.init) (out := [])
  simp only [List.not_mem_nil, false_or] at k
  exact k
end Go.Proofs.Ytfcpfcgcfaacnaa

namespace Go.Proofs.Ytfcpfcgcfaacnaa

def bareN (x : AN) : AN := { x with inn := 0 }
def bare (A : AU) : AU := ⟨0, A.init, A.nodes.map bareN⟩
def base (x : PP) : PP := ⟨x.node, x.state, 0⟩
theorem bare_node (A : AU) (q : Int) : nodeP (bare A) q = bareN (nodeP A q) := by
  show (A.nodes.map bareN).getD q.toNat ⟨0, 0, 0, []⟩ = bareN (A.nodes.getD q.toNat ⟨0, 0, 0, []⟩)
  rw [List.getD_eq_getElem?_getD, List.getD_eq_getElem?_getD, List.getElem?_map]
  cases A.nodes[q.toNat]? <;> rfl
theorem bare_all (A : AU) : allS [] (bare A) = 0 := rfl
theorem bare_turn (G : GR) (A : AU) (x : PP) : turnP G [] (bare A) x = x.turn := by
  unfold turnP
  rw [bare_all, if_neg (by omega)]
theorem bare_next {G : GR} {sets : List (List Bool)} {A : AU} {x y : PP} (hx : isP sets A x = true) : y ∈ nextP G [] (bare A) (base x) ↔ y.turn = 0 ∧ (⟨y.node, y.state, turnP G sets A x⟩ : PP) ∈ nextP G sets A x := by
  have hs : inG A.nodes.length x.state = true := by
    unfold isP at hx
    rw [Bool.and_eq_true] at hx
    exact hx.1
  have hb : isP [] (bare A) (base x) = true := by
    unfold isP
    rw [Bool.and_eq_true]
    constructor
    · show inG (A.nodes.map bareN).length x.state = true
      rw [List.length_map]; exact hs
    · show inG (max 0 1) 0 = true
      rfl
  rw [next_mem, next_mem]
  constructor
  · rintro ⟨_, e, he, q, hq, hr, rfl⟩
    rw [bare_node] at hq hr
    exact ⟨by rw [bare_turn]; rfl, hx, e, he, q, hq, hr, rfl⟩
  · rintro ⟨ht, _, e, he, q, hq, hr, h⟩
    refine ⟨hb, e, he, q, ?_, ?_, ?_⟩
    · rw [bare_node]; exact hq
    · rw [bare_node]; exact hr
    · rw [bare_turn]
      obtain ⟨n, s, t⟩ := y
      cases ht
      injection h with h1 h2 h3
      cases h1
      cases h2
      rfl
end Go.Proofs.Ytfcpfcgcfaacnaa

namespace Go.Proofs.Ytfcpfcgcfaacnaa

/-- by one step or more, within L -/
inductive Plus {α : Type} (R : α → α → Prop) (L : α → Prop) (s : α) : α → Prop
  | one {v : α} : R s v → L v → Plus R L s v
  | more {u v : α} : Plus R L s u → R u v → L v → Plus R L s v
theorem Plus.last {α : Type} {R : α → α → Prop} {L : α → Prop} {s v : α} (h : Plus R L s v) : L v := by
  cases h with
  | one _ h => exact h
  | more _ _ h => exact h
theorem Plus.trans {α : Type} {R : α → α → Prop} {L : α → Prop} {s u v : α} (h : Plus R L s u) (k : Plus R L u v) : Plus R L s v := by
  induction k with
  | one a b => exact .more h a b
  | more _ a b ih => exact .more ih a b
/-- there is a first step -/
theorem Plus.first {α : Type} {R : α → α → Prop} {L : α → Prop} {s v : α} (h : Plus R L s v) : ∃ u, R s u ∧ L u ∧ (u = v ∨ Plus R L u v) := by
  induction h with
  | one a b => exact ⟨_, a, b, .inl rfl⟩
  | more _ a b ih =>
    obtain ⟨u, h1, h2, h3⟩ := ih
    refine ⟨u, h1, h2, .inr ?_⟩
    rcases h3 with rfl | h3
    · exact .one a b
    · exact .more h3 a b
/-- the turn behind a pair -/
def turnN {β : Type} (n : Nat) (F : Nat → β → Prop) (v : β) (t t' : Nat) : Prop :=
  (n = 0 ∧ t' = 0) ∨ (0 < n ∧ F t v ∧ t' = (t + 1) % n) ∨ (0 < n ∧ ¬ F t v ∧ t' = t)
/-- a step of both -/
def stepN {β : Type} (n : Nat) (F : Nat → β → Prop) (R : β → β → Prop) (x y : β × Nat) : Prop := R x.1 y.1 ∧ turnN n F x.1 x.2 y.2
/-- In of a product by turns -/
def inN {β : Type} (n : Nat) (F : Nat → β → Prop) (x : β × Nat) : Prop := n = 0 ∨ (x.2 = 0 ∧ F 0 x.1)
def GoodN {β : Type} (n : Nat) (F : Nat → β → Prop) (R : β → β → Prop) (L : β → Prop) : Prop :=
  ∀ v, L v → (∃ w, Plus R L v w) ∧ ∀ i, i < n → ∃ w, Plus R L v w ∧ F i w
def GoodT {β : Type} (n : Nat) (F : Nat → β → Prop) (R : β → β → Prop) (L : β × Nat → Prop) : Prop :=
  ∀ x, L x → ∃ y, Plus (stepN n F R) L x y ∧ inN n F y

theorem Plus.proj {β : Type} {n : Nat} {F : Nat → β → Prop} {R : β → β → Prop} {L : β × Nat → Prop} {x y : β × Nat} (h : Plus (stepN n F R) L x y) : Plus R (fun v => ∃ t, L (v, t)) x.1 y.1 := by
  induction h with
  | one a b => exact .one a.1 ⟨_, b⟩
  | more _ a b ih => exact .more ih a.1 ⟨_, b⟩
/-- the turn stays until its set is met -/
theorem Plus.met {β : Type} {n : Nat} {F : Nat → β → Prop} {R : β → β → Prop} {L : β × Nat → Prop} {x y : β × Nat} (hn : 0 < n) (h : Plus (stepN n F R) L x y) :
    y.2 = x.2 ∨ F x.2 x.1 ∨ ∃ u, Plus (stepN n F R) L x (u, x.2) ∧ F x.2 u := by
  induction h with
  | one a b =>
    rcases a.2 with h | h | h
    · omega
    · exact .inr (.inl h.2.1)
    · exact .inl h.2.2
  | @more u v h a b ih =>
    rcases ih with e | h2 | h2
    · rcases a.2 with k | k | k
      · omega
      · refine .inr (.inr ⟨u.1, ?_, ?_⟩)
        · rw [← e]; exact h
        · rw [← e]; exact k.2.1
      · exact .inl (k.2.2.trans e)
    · exact .inr (.inl h2)
    · exact .inr (.inr h2)
/-- each set is met, by its own turn -/
theorem GoodT.meets {β : Type} {n : Nat} {F : Nat → β → Prop} {R : β → β → Prop} {L : β × Nat → Prop} (h : GoodT n F R L) {x : β × Nat} (hx : L x) : ∀ i, i < n → ∃ u, Plus (stepN n F R) L x (u, i) ∧ F i u
  | 0, hi => by
    obtain ⟨y, h1, h2⟩ := h x hx
    rcases h2 with h2 | ⟨h2, h3⟩
    · omega
    · refine ⟨y.1, ?_, h3⟩
      rw [← h2]; exact h1
  | i + 1, hi => by
    obtain ⟨u, h1, h2⟩ := h.meets hx i (by omega)
    obtain ⟨y, k1, k2⟩ := h _ h1.last
    obtain ⟨z, m1, m2, m3⟩ := k1.first
    have ez : z.2 = i + 1 := by
      rcases m1.2 with k | k | k
      · omega
      · rw [k.2.2]; exact Nat.mod_eq_of_lt hi
      · exact absurd h2 k.2.1
    have hz : Plus (stepN n F R) L x z := .more h1 m1 m2
    have hy : y.2 = 0 := by
      rcases k2 with k2 | k2
      · omega
      · exact k2.1
    rcases m3 with rfl | m3
    · omega
    · rcases m3.met (by omega) with e | e | ⟨w, e1, e2⟩
      · omega
      · refine ⟨z.1, ?_, ?_⟩
        · rw [← ez]; exact hz
        · rw [← ez]; exact e
      · rw [ez] at e1 e2
        exact ⟨w, hz.trans e1, e2⟩
/-- with turns, so without -/
theorem GoodT.goodN {β : Type} {n : Nat} {F : Nat → β → Prop} {R : β → β → Prop} {L : β × Nat → Prop} (h : GoodT n F R L) : GoodN n F R (fun v => ∃ t, L (v, t)) := by
  rintro v ⟨t, hv⟩
  constructor
  · obtain ⟨y, h1, _⟩ := h _ hv
    exact ⟨_, h1.proj⟩
  · intro i hi
    obtain ⟨u, h1, h2⟩ := h.meets hv i hi
    exact ⟨u, h1.proj, h2⟩

/-- the steps without turns, lifted, till the turn's set is met -/
theorem Plus.lift {β : Type} {n : Nat} {F : Nat → β → Prop} {R : β → β → Prop} {L : β → Prop} {v w : β} {t : Nat} (hn : 0 < n) (h : Plus R L v w) :
    F t v ∨ (∃ u, Plus (stepN n F R) (fun x => L x.1) (v, t) (u, t) ∧ F t u) ∨ Plus (stepN n F R) (fun x => L x.1) (v, t) (w, t) := by
  induction h with
  | @one w a b =>
    by_cases hf : F t v
    · exact .inl hf
    · exact .inr (.inr (.one ⟨a, .inr (.inr ⟨hn, hf, rfl⟩)⟩ b))
  | @more u w h a b ih =>
    rcases ih with h1 | h1 | h1
    · exact .inl h1
    · exact .inr (.inl h1)
    · by_cases hf : F t u
      · exact .inr (.inl ⟨u, h1, hf⟩)
      · exact .inr (.inr (.more h1 ⟨a, .inr (.inr ⟨hn, hf, rfl⟩)⟩ b))
/-- the next turn comes -/
theorem GoodN.turn {β : Type} {n : Nat} {F : Nat → β → Prop} {R : β → β → Prop} {L : β → Prop} (h : GoodN n F R L) (hn : 0 < n) {v : β} {t : Nat} (ht : t < n) (hv : L v) :
    ∃ u, Plus (stepN n F R) (fun x => L x.1) (v, t) (u, (t + 1) % n) := by
  have on : ∀ u, L u → F t u → ∃ z, stepN n F R (u, t) (z, (t + 1) % n) ∧ L z := by
    intro u hu hf
    obtain ⟨w, hw⟩ := (h u hu).1
    obtain ⟨z, z1, z2, _⟩ := hw.first
    exact ⟨z, ⟨z1, .inr (.inl ⟨hn, hf, rfl⟩)⟩, z2⟩
  obtain ⟨w, h1, h2⟩ := (h v hv).2 t ht
  rcases h1.lift (F := F) (n := n) (t := t) hn with k | ⟨u, k1, k2⟩ | k
  · obtain ⟨z, z1, z2⟩ := on v hv k
    exact ⟨z, .one z1 z2⟩
  · obtain ⟨z, z1, z2⟩ := on u k1.last k2
    exact ⟨z, .more k1 z1 z2⟩
  · obtain ⟨z, z1, z2⟩ := on w k.last h2
    exact ⟨z, .more k z1 z2⟩
/-- turn 0 comes -/
theorem GoodN.zero {β : Type} {n : Nat} {F : Nat → β → Prop} {R : β → β → Prop} {L : β → Prop} (h : GoodN n F R L) (hn : 0 < n) : ∀ (k t : Nat) (v : β), t < n → k = n - t → L v → ∃ u, Plus (stepN n F R) (fun x => L x.1) (v, t) (u, 0)
  | 0, t, v, ht, hk, hv => by omega
  | k + 1, t, v, ht, hk, hv => by
    obtain ⟨u, hu⟩ := h.turn hn ht hv
    by_cases e : t + 1 = n
    · rw [e, Nat.mod_self] at hu
      exact ⟨u, hu⟩
    · rw [Nat.mod_eq_of_lt (by omega)] at hu
      obtain ⟨z, hz⟩ := h.zero hn k (t + 1) u (by omega) (by omega) hu.last
      exact ⟨z, hu.trans hz⟩
/-- without turns, so with -/
theorem GoodN.goodT {β : Type} {n : Nat} {F : Nat → β → Prop} {R : β → β → Prop} {L : β → Prop} (h : GoodN n F R L) {v : β} {t : Nat} (ht : t < n ∨ n = 0) (hv : L v) :
    ∃ y, Plus (stepN n F R) (fun x => L x.1) (v, t) y ∧ inN n F y := by
  by_cases hn : n = 0
  · obtain ⟨w, hw⟩ := (h v hv).1
    obtain ⟨z, z1, z2, _⟩ := hw.first
    exact ⟨(z, 0), .one ⟨z1, .inl ⟨hn, rfl⟩⟩ z2, .inl hn⟩
  · have hp : 0 < n := by omega
    obtain ⟨u, hu⟩ := h.zero hp (n - t) t v (by omega) rfl hv
    obtain ⟨w, h1, h2⟩ := (h u hu.last).2 0 hp
    rcases h1.lift (F := F) (n := n) (t := 0) hp with k | ⟨z, k1, k2⟩ | k
    · exact ⟨_, hu, .inr ⟨rfl, k⟩⟩
    · exact ⟨_, hu.trans k1, .inr ⟨rfl, k2⟩⟩
    · exact ⟨_, hu.trans k, .inr ⟨rfl, h2⟩⟩
end Go.Proofs.Ytfcpfcgcfaacnaa

namespace Go.Proofs.Ytfcpfcgcfaacnaa

theorem tgts_at {l : List PP} {es : List (List PR)} {nx : PP → List PP} (hlen : es.length = l.length) (hr : ∀ (k : Nat) (x : PP) (r : List PR), l[k]? = some x → es[k]? = some r → NextAt l r (nx x)) {k : Nat} {x : PP} (hk : l[k]? = some x) :
    (∀ v : Nat, (v : Int) ∈ tgts es k → ∃ y, y ∈ nx x ∧ l[v]? = some y) ∧ ∀ y ∈ nx x, ∃ v : Nat, (v : Int) ∈ tgts es k ∧ l[v]? = some y := by
  have hk1 := (List.getElem?_eq_some_iff.1 hk).1
  have he : es[k]? = some es[k] := List.getElem?_eq_getElem (by omega)
  have hn := hr k x es[k] hk he
  have et : tgts es k = es[k].map (·.1) := by
    unfold tgts
    rw [List.getD_eq_getElem?_getD, he]
    rfl
  rw [et]
  constructor
  · intro v hv
    obtain ⟨q, hq, e⟩ := List.mem_map.1 hv
    obtain ⟨j, hj⟩ := List.getElem?_of_mem hq
    have hj1 := (List.getElem?_eq_some_iff.1 hj).1
    have hj2 : j < (nx x).length := by rw [← hn.1]; exact hj1
    have hy : (nx x)[j]? = some (nx x)[j] := List.getElem?_eq_getElem hj2
    obtain ⟨i, a, h1, h2⟩ := hn.2 j _ hy
    rw [hj] at h1
    have e2 : q = ((i : Int), a) := Option.some.inj h1
    rw [e2] at e
    have e4 : (i : Int) = (v : Int) := e
    have e3 : i = v := Int.ofNat.inj e4
    exact ⟨_, List.getElem_mem _, e3 ▸ h2⟩
  · intro y hy
    obtain ⟨j, hj⟩ := List.getElem?_of_mem hy
    obtain ⟨i, a, h1, h2⟩ := hn.2 j y hj
    exact ⟨i, List.mem_map.2 ⟨_, List.mem_of_getElem? h1, rfl⟩, h2⟩
/-- good, told of pairs -/
def GoodR (l : List PP) (nx : PP → List PP) (Fp : List (PP → Bool)) (L : PP → Prop) : Prop :=
  ∀ x, L x → x ∈ l ∧ (∃ y, Plus (fun x y => y ∈ nx x) L x y) ∧ ∀ p ∈ Fp, ∃ y, Plus (fun x y => y ∈ nx x) L x y ∧ p y = true
theorem someR {l : List PP} {es : List (List PR)} {nx : PP → List PP} (hlen : es.length = l.length) (hr : ∀ (k : Nat) (x : PP) (r : List PR), l[k]? = some x → es[k]? = some r → NextAt l r (nx x)) (init : List Int) (Fp : List (PP → Bool)) :
    SomeP init es (Fp.map fun p => l.map p) ↔ ∃ L : PP → Prop, GoodR l nx Fp L ∧ ∃ i ∈ init, ∃ v : Nat, i = (v : Int) ∧ ∃ x, l[v]? = some x ∧ L x := by
  have hFp : ∀ (p : PP → Bool) (v : Nat) (y : PP), l[v]? = some y → (l.map p).getD v false = p y := by
    intro p v y h
    rw [List.getD_eq_getElem?_getD, List.getElem?_map, h]
    rfl
  constructor
  · rintro ⟨L, hL, i, hi, v, e, hv⟩
    have walk : ∀ {s v : Nat} {x : PP}, l[s]? = some x → RLeft es L s v → ∃ y, l[v]? = some y ∧ Plus (fun x y => y ∈ nx x) (fun x => ∃ k, l[k]? = some x ∧ L k = true) x y := by
      intro s v x hs h
      induction h with
      | one h1 h2 h3 =>
        obtain ⟨y, k1, k2⟩ := (tgts_at hlen hr hs).1 _ h1
        exact ⟨y, k2, .one k1 ⟨_, k2, h3⟩⟩
      | more h h1 h2 h3 ih =>
        obtain ⟨u, u1, u2⟩ := ih
        obtain ⟨y, k1, k2⟩ := (tgts_at hlen hr u1).1 _ h1
        exact ⟨y, k2, .more u2 k1 ⟨_, k2, h3⟩⟩
    refine ⟨fun x => ∃ k, l[k]? = some x ∧ L k = true, ?_, i, hi, v, e, ?_⟩
    · rintro x ⟨k, hk, hLk⟩
      obtain ⟨_, ⟨w, hw⟩, hF⟩ := hL k hLk
      refine ⟨List.mem_of_getElem? hk, ?_, fun p hp => ?_⟩
      · obtain ⟨y, _, h⟩ := walk hk hw
        exact ⟨y, h⟩
      · obtain ⟨u, hu, hu2⟩ := hF _ (List.mem_map.2 ⟨p, hp, rfl⟩)
        obtain ⟨y, hy, h⟩ := walk hk hu
        rw [hFp p u y hy] at hu2
        exact ⟨y, h, hu2⟩
    · have hl := (hL v hv).1
      rw [hlen] at hl
      exact ⟨l[v], List.getElem?_eq_getElem hl, v, List.getElem?_eq_getElem hl, hv⟩
  · rintro ⟨L, hL, i, hi, v, e, x, hx, hLx⟩
    have hd : ∀ k : Nat, ∃ b : Bool, b = true ↔ ∃ x, l[k]? = some x ∧ L x := fun k => by
      by_cases h : ∃ x, l[k]? = some x ∧ L x
      · exact ⟨true, by simp [h]⟩
      · exact ⟨false, by simp [h]⟩
    obtain ⟨B, hB⟩ : ∃ B : Nat → Bool, ∀ k, B k = true ↔ ∃ x, l[k]? = some x ∧ L x := ⟨fun k => Classical.choose (hd k), fun k => Classical.choose_spec (hd k)⟩
    have walk : ∀ {s : Nat} {x y : PP}, l[s]? = some x → Plus (fun x y => y ∈ nx x) L x y → ∃ v, l[v]? = some y ∧ RLeft es B s v := by
      intro s x y hs h
      induction h with
      | one h1 h2 =>
        obtain ⟨v, k1, k2⟩ := (tgts_at hlen hr hs).2 _ h1
        exact ⟨v, k2, .one k1 (by rw [hlen]; exact (List.getElem?_eq_some_iff.1 k2).1) ((hB v).2 ⟨_, k2, h2⟩)⟩
      | more h h1 h2 ih =>
        obtain ⟨u, u1, u2⟩ := ih
        obtain ⟨v, k1, k2⟩ := (tgts_at hlen hr u1).2 _ h1
        exact ⟨v, k2, .more u2 k1 (by rw [hlen]; exact (List.getElem?_eq_some_iff.1 k2).1) ((hB v).2 ⟨_, k2, h2⟩)⟩
    refine ⟨B, fun k hk => ?_, i, hi, v, e, (hB v).2 ⟨x, hx, hLx⟩⟩
    obtain ⟨z, hz, hLz⟩ := (hB k).1 hk
    obtain ⟨_, ⟨y, hy⟩, hF⟩ := hL z hLz
    refine ⟨by rw [hlen]; exact (List.getElem?_eq_some_iff.1 hz).1, ?_, fun F hFm => ?_⟩
    · obtain ⟨v, _, h⟩ := walk hz hy
      exact ⟨v, h⟩
    · obtain ⟨p, hp, rfl⟩ := List.mem_map.1 hFm
      obtain ⟨y, hy, hpy⟩ := hF p hp
      obtain ⟨v, hv, h⟩ := walk hz hy
      exact ⟨v, h, by rw [hFp p v y hv]; exact hpy⟩
end Go.Proofs.Ytfcpfcgcfaacnaa

namespace Go.Proofs.Ytfcpfcgcfaacnaa

/-- of each pair of the whole product is told whether it is In -/
theorem wholeL_ins {G : GR} {sets : List (List Bool)} {A : AU} {most : Int} : ∀ (f i : Nat) (s s' : WR), i ≤ s.l.length → s.ins.length = i → (∀ k (hk : k < s.l.length), k < i → s.ins[k]? = some (inP G sets A s.l[k])) → wholeL G sets A most f i s = some s' →
    ∀ k (hk : k < s'.l.length), s'.ins[k]? = some (inP G sets A s'.l[k])
  | 0, _, _, _, _, _, _, h => by simp [wholeL] at h
  | f + 1, i, s, s', hi, h1, h2, h => by
    by_cases hl : i < s.l.length
    · by_cases hm : most < (s.l.length : Int)
      · rw [wholeL_more hl hm] at h
        cases h
      · rw [wholeL_step hl hm] at h
        have hr := rowQ_len G sets A s.l[i] s.l (nextP G sets A s.l[i])
        refine wholeL_ins f (i + 1) (stepW G sets A s.l[i] s) s' (by show i + 1 ≤ (rowQ G sets A s.l[i] s.l (nextP G sets A s.l[i])).1.length; omega) (by simp [stepW, h1]) (fun k hk hki => ?_) h
        have hks : k < s.l.length := by omega
        have hold := rowQ_old G sets A s.l[i] s.l (nextP G sets A s.l[i]) hks
        have hk' : k < (rowQ G sets A s.l[i] s.l (nextP G sets A s.l[i])).1.length := hk
        have e : (stepW G sets A s.l[i] s).l[k]'hk = s.l[k] := by
          show (rowQ G sets A s.l[i] s.l (nextP G sets A s.l[i])).1[k] = _
          rw [List.getElem?_eq_getElem hk'] at hold
          exact Option.some.inj hold
        refine Eq.trans ?_ (congrArg (fun z => some (inP G sets A z)) e).symm
        show (s.ins ++ [inP G sets A s.l[i]])[k]? = some (inP G sets A s.l[k])
        by_cases hk2 : k < i
        · rw [List.getElem?_append_left (by omega)]
          exact h2 k hks hk2
        · obtain rfl : k = i := by omega
          rw [List.getElem?_append_right (by omega), h1]
          simp
    · rw [wholeL_end hl] at h
      cases h
      exact fun k hk => h2 k hk (by omega)
/-- an error, or a product -/
theorem wholeP_ok {G : GR} {sets : List (List Bool)} {A : AU} (lt : Lt G sets A) {m : Int} (h : (wholeP G sets A m).1 = 0) : newB G sets A = true ∧ (wholeP G sets A m).2.2.ins.length = (wholeP G sets A m).2.2.l.length ∧ ∀ k (hk : k < (wholeP G sets A m).2.2.l.length), (wholeP G sets A m).2.2.ins[k]? = some (inP G sets A (wholeP G sets A m).2.2.l[k]) := by
  unfold wholeP at h ⊢
  by_cases hn : newB G sets A = true
  · rw [if_pos hn] at h ⊢
    by_cases hm : m < 0
    · rw [if_pos hm] at h
      cases h
    · rw [if_neg hm] at h ⊢
      cases hw : wholeL G sets A (most' m) 65540 0 ⟨firstP G A, [], [], []⟩ with
      | none => rw [hw] at h; cases h
      | some s =>
        have h1 := wholeL_len lt 65540 0 ⟨firstP G A, [], [], []⟩ s (Nat.zero_le _) rfl rfl rfl (by simp) hw
        exact ⟨hn, h1.2.2.1, wholeL_ins 65540 0 ⟨firstP G A, [], [], []⟩ s (Nat.zero_le _) rfl (fun k hk hki => by omega) hw⟩
  · rw [if_neg hn] at h
    cases h
theorem pairsP_turn {A : AU} {lab : Nat} {node turn : Int} : ∀ {states : List Int} {out : List PP}, (∀ y ∈ out, y.turn = turn) → ∀ y ∈ pairsP A lab node turn out states, y.turn = turn :=
  fun h => pairsP_all A _ _ _ _ _ h (fun _ _ => rfl)
theorem next_turn {G : GR} {sets : List (List Bool)} {A : AU} {x : PP} : ∀ y ∈ nextP G sets A x, isP sets A x = true ∧ y.turn = turnP G sets A x := by
  unfold nextP
  by_cases hx : isP sets A x = true
  · rw [if_pos hx]
    have key : ∀ (es : List PR) (out : List PP), (∀ y ∈ out, y.turn = turnP G sets A x) → ∀ y ∈ es.foldl (fun out e => pairsP A (labP G e.1) e.1 (turnP G sets A x) out (nodeP A x.state).to) out, y.turn = turnP G sets A x := by
      intro es
      induction es with
      | nil => intro out h; exact h
      | cons e es ih => intro out h; rw [List.foldl_cons]; exact ih _ (pairsP_turn h)
    exact fun y hy => ⟨hx, key _ [] (by simp) y hy⟩
  · rw [if_neg hx]
    simp
theorem turn_zero {sets : List (List Bool)} {A : AU} {x : PP} (h : isP sets A x = true) (h0 : allS sets A = 0) : x.turn = 0 := by
  obtain ⟨k, t, _, h2, _, h4⟩ := isP_range h
  rw [h0] at h4
  omega
/-- what holds of the turn behind a pair -/
theorem turn_next {G : GR} {sets : List (List Bool)} {A : AU} {x : PP} (h : isP sets A x = true) : (allS sets A = 0 → turnP G sets A x = 0) ∧ (turnP G sets A x = x.turn ∨ (0 < allS sets A ∧ turnP G sets A x = (x.turn + 1) % (allS sets A : Int))) := by
  unfold turnP
  by_cases hc : 0 < allS sets A ∧ ofP G sets A x = true
  · rw [if_pos hc]
    exact ⟨fun e => by omega, .inr ⟨hc.1, rfl⟩⟩
  · rw [if_neg hc]
    exact ⟨fun e => turn_zero h e, .inl rfl⟩
theorem in_turn {G : GR} {sets : List (List Bool)} {A : AU} {x : PP} (h : inP G sets A x = true) : x.turn = 0 := by
  unfold inP at h
  rw [Bool.and_eq_true, Bool.or_eq_true, Bool.and_eq_true, decide_eq_true_eq, decide_eq_true_eq] at h
  obtain ⟨h1, h2 | h2⟩ := h
  · exact turn_zero h1 h2
  · exact h2.1
end Go.Proofs.Ytfcpfcgcfaacnaa

namespace Go.Proofs.Ytfcpfcgcfaacnaa

/-! a whole product that is there -/
theorem wholeL_most {G : GR} {sets : List (List Bool)} {A : AU} {most : Int} (hm0 : 0 ≤ most) : ∀ (f i : Nat) (s s' : WR), wholeL G sets A most f i s = some s' → (s'.l.length : Int) ≤ most ∨ (s.l.length ≤ i ∧ s' = s)
  | 0, _, _, _, h => by simp [wholeL] at h
  | f + 1, i, s, s', h => by
    by_cases hl : i < s.l.length
    · by_cases hm : most < (s.l.length : Int)
      · rw [wholeL_more hl hm] at h
        cases h
      · rw [wholeL_step hl hm] at h
        rcases wholeL_most hm0 f (i + 1) _ s' h with h1 | ⟨h1, rfl⟩
        · exact .inl h1
        · refine .inl ?_
          have h2 : (stepW G sets A s.l[i] s).l.length ≤ i + 1 := h1
          omega
    · rw [wholeL_end hl] at h
      cases h
      exact .inr ⟨by omega, rfl⟩
/-- what a whole product tells -/
structure WholeOk (G : GR) (sets : List (List Bool)) (A : AU) (init : List Int) (s : WR) : Prop where
  ini : init = upTo (firstP G A).length
  first : ∀ (k : Nat) (x : PP), (firstP G A)[k]? = some x → s.l[k]? = some x
  len : s.es.length = s.l.length
  rows : ∀ (k : Nat) (x : PP) (r : List PR), s.l[k]? = some x → s.es[k]? = some r → NextAt s.l r (nextP G sets A x)
theorem wholeP_rows {G : GR} {sets : List (List Bool)} {A : AU} {m : Int} (h : (wholeP G sets A m).1 = 0) : newB G sets A = true ∧ WholeOk G sets A (wholeP G sets A m).2.1 (wholeP G sets A m).2.2 ∧ ((wholeP G sets A m).2.2.l.length : Int) ≤ most' m := by
  unfold wholeP at h ⊢
  by_cases hn : newB G sets A = true
  · rw [if_pos hn] at h ⊢
    by_cases hm : m < 0
    · rw [if_pos hm] at h
      cases h
    · rw [if_neg hm] at h ⊢
      have hm0 : 0 ≤ most' m := by unfold most'; split <;> omega
      cases hw : wholeL G sets A (most' m) 65540 0 ⟨firstP G A, [], [], []⟩ with
      | none => rw [hw] at h; cases h
      | some s =>
        obtain ⟨h1, h2, h3⟩ := wholeL_rows 65540 0 ⟨firstP G A, [], [], []⟩ s (Nat.zero_le _) rfl (fun k x r _ hr => by simp at hr) hw
        refine ⟨hn, ⟨rfl, h2, h1, h3⟩, ?_⟩
        show (s.l.length : Int) ≤ _
        rcases wholeL_most hm0 65540 0 _ s hw with h4 | ⟨h4, rfl⟩
        · exact h4
        · have h5 : (firstP G A).length ≤ 0 := h4
          show ((firstP G A).length : Int) ≤ _
          omega
  · rw [if_neg hn] at h
    cases h
theorem numQ_nodup {l : List PP} {x : PP} (h : l.Nodup) : (numQ l x).1.Nodup := by
  unfold numQ
  split
  · exact h
  · rename_i hx
    show (l ++ [x]).Nodup
    rw [List.nodup_append]
    refine ⟨h, by simp, fun a ha b hb => ?_⟩
    simp at hb
    subst hb
    exact fun e => hx (e ▸ ha)
theorem rowQ_nodup (G : GR) (sets : List (List Bool)) (A : AU) (x : PP) {l : List PP} (ys : List PP) (h : l.Nodup) : (rowQ G sets A x l ys).1.Nodup := by
  induction ys using snoc_rec with
  | h0 => exact h
  | h1 ys y ih =>
    rw [rowQ_snoc]
    exact numQ_nodup ih
theorem nodup_le {α : Type} : ∀ {l m : List α}, l.Nodup → (∀ x ∈ l, x ∈ m) → l.length ≤ m.length
  | [], _, _, _ => Nat.zero_le _
  | x :: l, m, h, hs => by
    obtain ⟨a, b, rfl⟩ := List.append_of_mem (hs x (.head _))
    rw [List.nodup_cons] at h
    have := nodup_le (l := l) (m := a ++ b) h.2 (fun y hy => by
      have h1 := hs y (.tail _ hy)
      rcases List.mem_append.1 h1 with h2 | h2
      · exact List.mem_append.2 (.inl h2)
      · rcases List.mem_cons.1 h2 with rfl | h2
        · exact absurd hy h.1
        · exact List.mem_append.2 (.inr h2))
    simp only [List.length_cons, List.length_append] at this ⊢
    omega
/-- where all pairs are among those of a list, the whole product is there -/
theorem wholeL_some {G : GR} {sets : List (List Bool)} {A : AU} {most : Int} {M : List PP} (hM : (M.length : Int) ≤ most) (hcl : ∀ x ∈ M, ∀ y ∈ nextP G sets A x, y ∈ M) : ∀ (f i : Nat) (s : WR), s.l.Nodup → (∀ x ∈ s.l, x ∈ M) → i ≤ s.l.length → M.length + 2 ≤ f + i → ∃ s', wholeL G sets A most f i s = some s'
  | 0, i, s, h1, h2, hi, h3 => by
    have := nodup_le h1 h2
    omega
  | f + 1, i, s, h1, h2, hi, h3 => by
    by_cases hl : i < s.l.length
    · have h4 := nodup_le h1 h2
      have hm : ¬ most < (s.l.length : Int) := by omega
      rw [wholeL_step hl hm]
      have h5 := (rowQ_len G sets A s.l[i] s.l (nextP G sets A s.l[i])).1
      refine wholeL_some hM hcl f (i + 1) _ (rowQ_nodup _ _ _ _ _ h1) (rowQ_all _ _ _ _ h2 (hcl _ (h2 _ (List.getElem_mem hl)))) ?_ (by omega)
      show i + 1 ≤ (rowQ G sets A s.l[i] s.l (nextP G sets A s.l[i])).1.length
      omega
    · rw [wholeL_end hl]
      exact ⟨s, rfl⟩
/-- a whole product's list holds all that is next -/
theorem WholeOk.closed {G : GR} {sets : List (List Bool)} {A : AU} {init : List Int} {s : WR} (h : WholeOk G sets A init s) : ∀ x ∈ s.l, ∀ y ∈ nextP G sets A x, y ∈ s.l := by
  intro x hx y hy
  obtain ⟨k, hk⟩ := List.getElem?_of_mem hx
  obtain ⟨v, _, hv⟩ := (tgts_at h.len h.rows hk).2 y hy
  exact List.mem_of_getElem? hv
theorem WholeOk.begins {G : GR} {sets : List (List Bool)} {A : AU} {init : List Int} {s : WR} (h : WholeOk G sets A init s) : ∀ x ∈ firstP G A, x ∈ s.l := by
  intro x hx
  obtain ⟨k, hk⟩ := List.getElem?_of_mem hx
  exact List.mem_of_getElem? (h.first k x hk)
/-- within a list that holds all that is next -/
theorem Plus.within {nx : PP → List PP} {L : PP → Prop} {l : List PP} (hcl : ∀ x ∈ l, ∀ y ∈ nx x, y ∈ l) {x y : PP} (hx : x ∈ l) (h : Plus (fun x y => y ∈ nx x) L x y) : y ∈ l ∧ Plus (fun x y => y ∈ nx x) (fun z => L z ∧ z ∈ l) x y := by
  induction h with
  | one a b => exact ⟨hcl _ hx _ a, .one a ⟨b, hcl _ hx _ a⟩⟩
  | more _ a b ih => exact ⟨hcl _ ih.1 _ a, .more ih.2 a ⟨b, hcl _ ih.1 _ a⟩⟩
/-- good, wherever it lies -/
def GoodQ (nx : PP → List PP) (Fp : List (PP → Bool)) (L : PP → Prop) : Prop :=
  ∀ x, L x → (∃ y, Plus (fun x y => y ∈ nx x) L x y) ∧ ∀ p ∈ Fp, ∃ y, Plus (fun x y => y ∈ nx x) L x y ∧ p y = true
theorem someQ {G : GR} {sets : List (List Bool)} {A : AU} {init : List Int} {s : WR} (h : WholeOk G sets A init s) (Fp : List (PP → Bool)) :
    SomeP init s.es (Fp.map fun p => s.l.map p) ↔ ∃ L : PP → Prop, GoodQ (nextP G sets A) Fp L ∧ ∃ x ∈ firstP G A, L x := by
  rw [someR h.len h.rows]
  constructor
  · rintro ⟨L, h1, i, hi, v, rfl, x, hx, hLx⟩
    refine ⟨L, fun x hx => (h1 x hx).2, x, ?_, hLx⟩
    rw [h.ini] at hi
    obtain ⟨k, hk, e⟩ := List.mem_map.1 hi
    have e2 : k = v := Int.ofNat.inj e
    subst e2
    have hk2 := List.mem_range.1 hk
    have h3 := h.first k _ (List.getElem?_eq_getElem hk2)
    rw [hx] at h3
    rw [Option.some.inj h3]
    exact List.getElem_mem hk2
  · rintro ⟨L, h1, x, hx, hLx⟩
    obtain ⟨k, hk⟩ := List.getElem?_of_mem hx
    have hk2 := (List.getElem?_eq_some_iff.1 hk).1
    refine ⟨fun z => L z ∧ z ∈ s.l, ?_, (k : Int), ?_, k, rfl, x, h.first k x hk, hLx, h.begins x hx⟩
    · rintro y ⟨hy, hyl⟩
      obtain ⟨⟨z, hz⟩, hF⟩ := h1 y hy
      refine ⟨hyl, ⟨z, (hz.within h.closed hyl).2⟩, fun p hp => ?_⟩
      obtain ⟨u, hu, hpu⟩ := hF p hp
      exact ⟨u, (hu.within h.closed hyl).2, hpu⟩
    · rw [h.ini]
      exact List.mem_map.2 ⟨k, List.mem_range.2 hk2, rfl⟩

/-! the automaton without its sets -/
theorem chkN_bare (n s : Nat) : ∀ l : List AN, chkN n s l = 0 → chkN n 0 (l.map bareN) = 0
  | [], _ => rfl
  | x :: l, h => by
    unfold chkN at h
    by_cases h1 : x.to.any (outB n) = true
    · rw [if_pos h1] at h; cases h
    rw [if_neg h1] at h
    by_cases h2 : x.inn / 2 ^ s ≠ 0
    · rw [if_pos h2] at h; cases h
    rw [if_neg h2] at h
    have ih := chkN_bare n s l h
    show chkN n 0 (bareN x :: l.map bareN) = 0
    unfold chkN
    rw [if_neg (show ¬ (bareN x).to.any (outB n) = true from h1), if_neg (show ¬ (bareN x).inn / 2 ^ 0 ≠ 0 by show ¬ (0 : Nat) / 2 ^ 0 ≠ 0; simp), ih]
theorem chk_bare {A : AU} (h : chk A = 0) : chk (bare A) = 0 := by
  unfold chk at h
  by_cases h1 : 256 < A.nodes.length ∨ 16 < A.sets
  · rw [if_pos h1] at h; cases h
  rw [if_neg h1] at h
  by_cases h2 : A.sets < 0
  · rw [if_pos h2] at h; cases h
  rw [if_neg h2] at h
  by_cases h3 : A.init.any (outB A.nodes.length) = true
  · rw [if_pos h3] at h; cases h
  rw [if_neg h3] at h
  have hl : (bare A).nodes.length = A.nodes.length := List.length_map _
  have hs : (bare A).sets = 0 := rfl
  have hi : (bare A).init = A.init := rfl
  have hn : (bare A).nodes = A.nodes.map bareN := rfl
  unfold chk
  rw [hl, hs, hi, if_neg (by omega), if_neg (by omega), if_neg h3, hn]
  exact chkN_bare _ _ _ h
theorem newB_bare {G : GR} {sets : List (List Bool)} {A : AU} (h : newB G sets A = true) : newB G [] (bare A) = true := by
  unfold newB srcB at h ⊢
  simp only [Bool.and_eq_true, decide_eq_true_eq] at h ⊢
  exact ⟨⟨⟨h.1.1.1, by simp⟩, by simp⟩, chk_bare h.2⟩
theorem Lt.bare {G : GR} {sets : List (List Bool)} {A : AU} (h : Lt G sets A) : Lt G [] (bare A) := by
  refine ⟨h.e, h.i, h.l, by simp, ?_, h.ai, h.r, fun x hx => ?_⟩
  · show (A.nodes.map bareN).length ≤ 8
    rw [List.length_map]; exact h.n
  · obtain ⟨y, hy, rfl⟩ := List.mem_map.1 hx
    exact h.t y hy
theorem AuOk.bare {A : AU} (h : AuOk A) : AuOk (bare A) := by
  refine ⟨⟨by show (-9223372036854775808 : Int) ≤ 0; omega, by show (0 : Int) ≤ 9223372036854775807; omega⟩, h.init, h.initL, ?_, fun x hx => ?_⟩
  · show (A.nodes.map bareN).length ≤ _
    rw [List.length_map]; exact h.nodesL
  · obtain ⟨y, hy, rfl⟩ := List.mem_map.1 hx
    obtain ⟨a, b, c, d⟩ := h.nodes y hy
    exact ⟨a, b, by show (0 : Nat) < _; omega, d⟩
theorem first_bare (G : GR) (A : AU) : firstP G (bare A) = firstP G A := by
  have h : ∀ (lab : Nat) (node turn : Int) (states : List Int) (out : List PP), pairsP (bare A) lab node turn out states = pairsP A lab node turn out states := by
    intro lab node turn states
    induction states with
    | nil => intro out; rfl
    | cons q l ih =>
      intro out
      have e : readsB (nodeP (bare A) q) lab = readsB (nodeP A q) lab := by rw [bare_node]; rfl
      have e1 : pairsP (bare A) lab node turn out (q :: l) = pairsP (bare A) lab node turn (if readsB (nodeP (bare A) q) lab then addP out ⟨node, q, turn⟩ else out) l := rfl
      have e2 : pairsP A lab node turn out (q :: l) = pairsP A lab node turn (if readsB (nodeP A q) lab then addP out ⟨node, q, turn⟩ else out) l := rfl
      rw [e1, e2, e, ih]
  unfold firstP
  have h2 : ∀ (ns : List Int) (out : List PP), ns.foldl (fun out n => pairsP (bare A) (labP G n) n 0 out (bare A).init) out = ns.foldl (fun out n => pairsP A (labP G n) n 0 out A.init) out := by
    intro ns
    induction ns with
    | nil => intro out; rfl
    | cons n ns ih =>
      intro out
      rw [List.foldl_cons, List.foldl_cons, ih]
      congr 1
      exact h _ _ _ _ _
  exact h2 _ _
theorem vPP_is {G : GR} {sets : List (List Bool)} {A : AU} {x : PP} (h : vPP G sets A x) : isP sets A x = true := by
  obtain ⟨_, ⟨a, b⟩, c, d⟩ := h
  unfold isP inG
  simp only [Bool.and_eq_true, decide_eq_true_eq]
  exact ⟨⟨a, b⟩, c, d⟩
/-- of which set a pair is, turns aside -/
def setB (G : GR) (sets : List (List Bool)) (A : AU) (i : Nat) (v : PP) : Bool := ofP G sets A ⟨v.node, v.state, (i : Int)⟩
theorem ofP_self {G : GR} {sets : List (List Bool)} {A : AU} {x : PP} (h : 0 ≤ x.turn) : ofP G sets A x = setB G sets A x.turn.toNat (base x) := by
  obtain ⟨n, s, t⟩ := x
  show ofP G sets A ⟨n, s, t⟩ = ofP G sets A ⟨n, s, ((t.toNat : Nat) : Int)⟩
  have e : ((t.toNat : Nat) : Int) = t := Int.toNat_of_nonneg h
  rw [e]
theorem turn_rel {G : GR} {sets : List (List Bool)} {A : AU} {x : PP} (h : vPP G sets A x) : turnN (allS sets A) (fun i v => setB G sets A i v = true) (base x) x.turn.toNat (turnP G sets A x).toNat := by
  have hi := vPP_is h
  obtain ⟨_, _, h1, h2⟩ := h
  unfold turnN turnP
  by_cases h0 : allS sets A = 0
  · left
    refine ⟨h0, ?_⟩
    rw [if_neg (by omega)]
    rw [h0] at h2
    omega
  · right
    by_cases ho : ofP G sets A x = true
    · left
      refine ⟨by omega, (ofP_self h1).symm.trans ho, ?_⟩
      rw [if_pos ⟨by omega, ho⟩]
      obtain ⟨k, hk⟩ := Int.eq_ofNat_of_zero_le h1
      rw [hk, Int.toNat_natCast]
      have e2 : ((k : Int) + 1) % ((allS sets A : Nat) : Int) = (((k + 1) % allS sets A : Nat) : Int) := by push_cast; rfl
      rw [e2, Int.toNat_natCast]
    · right
      refine ⟨by omega, fun hs => ho ((ofP_self h1).trans hs), ?_⟩
      rw [if_neg (fun e => ho e.2)]
theorem turnN_one {β : Type} {n : Nat} {F : Nat → β → Prop} {v : β} {t a b : Nat} (h : turnN n F v t a) (k : turnN n F v t b) : a = b := by
  rcases h with h | h | h <;> rcases k with k | k | k
  · omega
  · omega
  · omega
  · omega
  · rw [h.2.2, k.2.2]
  · exact absurd h.2.1 k.2.1
  · omega
  · exact absurd k.2.1 h.2.1
  · rw [h.2.2, k.2.2]
theorem base_eta {x : PP} (h : x.turn = 0) : base x = x := by
  obtain ⟨n, s, t⟩ := x
  cases h
  rfl
theorem PP.eta (x : PP) : (⟨x.node, x.state, x.turn⟩ : PP) = x := rfl
section
variable {G : GR} {sets : List (List Bool)} {A : AU}
/-- the steps without turns -/
abbrev stepB (G : GR) (A : AU) (v w : PP) : Prop := w ∈ nextP G [] (bare A) v
abbrev FB (G : GR) (sets : List (List Bool)) (A : AU) (i : Nat) (v : PP) : Prop := setB G sets A i v = true
abbrev fB (x : PP) : PP × Nat := (base x, x.turn.toNat)
theorem step_of {x y : PP} (hx : vPP G sets A x) (h : y ∈ nextP G sets A x) : stepN (allS sets A) (FB G sets A) (stepB G A) (fB x) (fB y) := by
  have hi := vPP_is hx
  have ht := (next_turn y h).2
  refine ⟨(bare_next hi).2 ⟨rfl, ?_⟩, ?_⟩
  · show (⟨y.node, y.state, turnP G sets A x⟩ : PP) ∈ _
    rw [← ht]
    exact h
  · have := turn_rel hx
    rw [← ht] at this
    exact this
theorem step_back {x : PP} {z : PP × Nat} (hx : vPP G sets A x) (h : stepN (allS sets A) (FB G sets A) (stepB G A) (fB x) z) : ∃ y, y ∈ nextP G sets A x ∧ fB y = z := by
  obtain ⟨w, t⟩ := z
  have hi := vPP_is hx
  obtain ⟨h1, h2⟩ := (bare_next hi).1 h.1
  refine ⟨⟨w.node, w.state, turnP G sets A x⟩, h2, ?_⟩
  have e := turnN_one (turn_rel hx) h.2
  show (base ⟨w.node, w.state, turnP G sets A x⟩, (turnP G sets A x).toNat) = (w, t)
  rw [e]
  congr 1
  exact base_eta h1
theorem in_rel {x : PP} (hx : vPP G sets A x) : inP G sets A x = true ↔ inN (allS sets A) (FB G sets A) (fB x) := by
  have hi := vPP_is hx
  have h1 := hx.2.2.1
  unfold inP inN
  rw [hi]
  simp only [Bool.true_and, Bool.or_eq_true, Bool.and_eq_true, decide_eq_true_eq]
  constructor
  · rintro (h | ⟨h2, h3⟩)
    · exact .inl h
    · refine .inr ⟨by show x.turn.toNat = 0; omega, ?_⟩
      rw [ofP_self h1, h2] at h3
      exact h3
  · rintro (h | ⟨h2, h3⟩)
    · exact .inl h
    · have h4 : x.turn.toNat = 0 := h2
      refine .inr ⟨by omega, ?_⟩
      rw [ofP_self h1, h4]
      exact h3
theorem plus_of (hg : gchk G = 0) (hc : chk A = 0) {L : PP → Prop} {x y : PP} (hx : vPP G sets A x) (h : Plus (fun x y => y ∈ nextP G sets A x) L x y) :
    vPP G sets A y ∧ Plus (stepN (allS sets A) (FB G sets A) (stepB G A)) (fun z => ∃ u, L u ∧ vPP G sets A u ∧ fB u = z) (fB x) (fB y) := by
  induction h with
  | one a b =>
    have hy := next_valid hg hc _ _ a
    exact ⟨hy, .one (step_of hx a) ⟨_, b, hy, rfl⟩⟩
  | more _ a b ih =>
    have hy := next_valid hg hc _ _ a
    exact ⟨hy, .more ih.2 (step_of ih.1 a) ⟨_, b, hy, rfl⟩⟩
theorem plus_back (hg : gchk G = 0) (hc : chk A = 0) {L : PP → Prop} {x : PP} {z : PP × Nat} (hx : vPP G sets A x) (h : Plus (stepN (allS sets A) (FB G sets A) (stepB G A)) (fun z => L z.1) (fB x) z) :
    ∃ y, fB y = z ∧ vPP G sets A y ∧ Plus (fun x y => y ∈ nextP G sets A x) (fun u => L (base u) ∧ vPP G sets A u) x y := by
  induction h with
  | one a b =>
    obtain ⟨y, h1, rfl⟩ := step_back hx a
    have hy := next_valid hg hc _ _ h1
    exact ⟨y, rfl, hy, .one h1 ⟨b, hy⟩⟩
  | more _ a b ih =>
    obtain ⟨u, rfl, hu, hp⟩ := ih
    obtain ⟨y, h1, rfl⟩ := step_back hu a
    have hy := next_valid hg hc _ _ h1
    exact ⟨y, rfl, hy, .more hp h1 ⟨b, hy⟩⟩
theorem Plus.weak {α : Type} {R : α → α → Prop} {L M : α → Prop} (hM : ∀ z, L z → M z) {x y : α} (h : Plus R L x y) : Plus R M x y := by
  induction h with
  | one a b => exact .one a (hM _ b)
  | more _ a b ih => exact .more ih a (hM _ b)
/-- the ways of both -/
theorem both_ways (hg : gchk G = 0) (hc : chk A = 0) :
    (∃ L : PP → Prop, GoodQ (nextP G sets A) [inP G sets A] L ∧ ∃ x ∈ firstP G A, L x) ↔
    ∃ L : PP → Prop, GoodQ (nextP G [] (bare A)) ((List.range (allS sets A)).map (setB G sets A)) L ∧ ∃ x ∈ firstP G (bare A), L x := by
  constructor
  · rintro ⟨L, hL, x, hx, hLx⟩
    have hT : GoodT (allS sets A) (FB G sets A) (stepB G A) (fun z => ∃ u, L u ∧ vPP G sets A u ∧ fB u = z) := by
      rintro _ ⟨u, hu, hv, rfl⟩
      obtain ⟨y, hy, hin⟩ := (hL u hu).2 _ (.head _)
      obtain ⟨h1, h2⟩ := plus_of hg hc hv hy
      exact ⟨_, h2, (in_rel h1).1 hin⟩
    have hN := hT.goodN
    refine ⟨fun v => ∃ t, ∃ u, L u ∧ vPP G sets A u ∧ fB u = (v, t), fun v hv => ?_, x, by rw [first_bare]; exact hx, x.turn.toNat, x, hLx, first_valid hg hc x hx, ?_⟩
    · obtain ⟨h1, h2⟩ := hN v hv
      refine ⟨h1, fun p hp => ?_⟩
      obtain ⟨i, hi, rfl⟩ := List.mem_map.1 hp
      exact h2 i (List.mem_range.1 hi)
    · obtain ⟨_, _, _, _, _, rfl⟩ := first_mem.1 hx
      rfl
  · rintro ⟨L, hL, x, hx, hLx⟩
    have hN : GoodN (allS sets A) (FB G sets A) (stepB G A) L := by
      intro v hv
      obtain ⟨h1, h2⟩ := hL v hv
      exact ⟨h1, fun i hi => h2 _ (List.mem_map.2 ⟨i, List.mem_range.2 hi, rfl⟩)⟩
    rw [first_bare] at hx
    have hxb : base x = x := by
      obtain ⟨_, _, _, _, _, rfl⟩ := first_mem.1 hx
      rfl
    refine ⟨fun u => L (base u) ∧ vPP G sets A u, ?_, x, hx, by rw [hxb]; exact hLx, first_valid hg hc x hx⟩
    rintro u ⟨hu, hv⟩
    have ht : u.turn.toNat < allS sets A ∨ allS sets A = 0 := by
      obtain ⟨_, _, a, b⟩ := hv
      omega
    obtain ⟨z, h1, h2⟩ := hN.goodT ht hu
    obtain ⟨y, rfl, h3, h4⟩ := plus_back hg hc hv h1
    refine ⟨⟨y, h4⟩, fun p hp => ?_⟩
    rw [List.mem_singleton] at hp
    subst hp
    exact ⟨y, h4, (in_rel h3).2 h2⟩
end
/-- the whole product without turns is there, too -/
theorem whole_bare {G : GR} {sets : List (List Bool)} {A : AU} {m : Int} (hm : m ≤ 65536) (h : (wholeP G sets A m).1 = 0) : (wholeP G [] (bare A) m).1 = 0 := by
  obtain ⟨hn, hw, hl⟩ := wholeP_rows h
  have hnb := newB_bare hn
  have hg : gchk G = 0 ∧ chk A = 0 := by
    unfold newB srcB at hn
    simp only [Bool.and_eq_true, decide_eq_true_eq] at hn
    exact ⟨hn.1.1.1, hn.2⟩
  have hmm : most' m = m := by unfold most'; rw [if_neg (by omega)]
  rw [hmm] at hl
  have hm0 : ¬ m < 0 := by omega
  generalize (wholeP G sets A m).2.2 = s at hw hl
  generalize (wholeP G sets A m).2.1 = init at hw
  -- the pairs without turns
  have hcl : ∀ z ∈ (s.l.filter fun x => isP sets A x).map base, ∀ y ∈ nextP G [] (bare A) z, y ∈ (s.l.filter fun x => isP sets A x).map base := by
    intro z hz y hy
    obtain ⟨x, hx, rfl⟩ := List.mem_map.1 hz
    obtain ⟨hx1, hx2⟩ := List.mem_filter.1 hx
    obtain ⟨h1, h2⟩ := (bare_next hx2).1 hy
    have h3 := hw.closed x hx1 _ h2
    have h4 := vPP_is (next_valid hg.1 hg.2 _ _ h2)
    exact List.mem_map.2 ⟨_, List.mem_filter.2 ⟨h3, h4⟩, base_eta h1⟩
  have hlen : (s.l.filter fun x => isP sets A x).length ≤ s.l.length := List.length_filter_le _ _
  obtain ⟨s', hs'⟩ := wholeL_some (most := m) (M := (s.l.filter fun x => isP sets A x).map base) (by rw [List.length_map]; omega) hcl 65540 0 ⟨firstP G (bare A), [], [], []⟩ (first_nodup _ _) (fun x hx => by
    have hx' : x ∈ firstP G A := by rw [← first_bare]; exact hx
    refine List.mem_map.2 ⟨x, List.mem_filter.2 ⟨hw.begins x hx', vPP_is (first_valid hg.1 hg.2 x hx')⟩, ?_⟩
    obtain ⟨_, _, _, _, _, rfl⟩ := first_mem.1 hx'
    rfl) (Nat.zero_le _) (by rw [List.length_map]; omega)
  unfold wholeP
  rw [if_pos hnb, if_neg hm0, hmm, hs']
/-- of both -/
theorem both_plain {G : GR} {sets : List (List Bool)} {A : AU} {m : Int} (hm : m ≤ 65536) (h : (wholeP G sets A m).1 = 0) (hins : (wholeP G sets A m).2.2.ins = (wholeP G sets A m).2.2.l.map (inP G sets A)) :
    (wholeP G [] (bare A) m).1 = 0 ∧ (SomeP (wholeP G sets A m).2.1 (wholeP G sets A m).2.2.es [(wholeP G sets A m).2.2.ins] ↔ SomeP (wholeP G [] (bare A) m).2.1 (wholeP G [] (bare A) m).2.2.es ((List.range (allS sets A)).map fun i => (wholeP G [] (bare A) m).2.2.l.map (setB G sets A i))) := by
  have hb := whole_bare hm h
  obtain ⟨hn, hw, _⟩ := wholeP_rows h
  obtain ⟨_, hw2, _⟩ := wholeP_rows hb
  have hg : gchk G = 0 ∧ chk A = 0 := by
    unfold newB srcB at hn
    simp only [Bool.and_eq_true, decide_eq_true_eq] at hn
    exact ⟨hn.1.1.1, hn.2⟩
  refine ⟨hb, ?_⟩
  rw [hins]
  have k1 := someQ hw [inP G sets A]
  have k2 := someQ hw2 ((List.range (allS sets A)).map (setB G sets A))
  rw [List.map_map] at k2
  exact (k1.trans (both_ways hg.1 hg.2)).trans k2.symm
end Go.Proofs.Ytfcpfcgcfaacnaa
