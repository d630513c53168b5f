/- The whole product in plain lists. No conditions. -/
import Derived.Test.YtmlbjfaofppikaaPrNumber
namespace Go.Proofs.Ytmlbjfaofppikaa

def actP : Option PR → Int
  | some e => e.2
  | none => 0
/-- one node's row, pair by pair -/
def rowStep (G : GR) (sets : List (List Bool)) (A : AU) (x : PP) (s : List PP × List PR) (y : PP) : List PP × List PR :=
  ((numQ s.1 y).1, s.2 ++ [(((numQ s.1 y).2 : Int), actP (edgeP G sets A x y))])
def rowQ (G : GR) (sets : List (List Bool)) (A : AU) (x : PP) (l : List PP) (ys : List PP) : List PP × List PR := ys.foldl (rowStep G sets A x) (l, [])
theorem rowQ_snoc (G : GR) (sets : List (List Bool)) (A : AU) (x : PP) (l ys : List PP) (y : PP) : rowQ G sets A x l (ys ++ [y]) = rowStep G sets A x (rowQ G sets A x l ys) y := by simp [rowQ]
/-- what is there so far -/
structure WR where
  l : List PP
  es : List (List PR)
  labs : List Nat
  ins : List Bool
def stepW (G : GR) (sets : List (List Bool)) (A : AU) (x : PP) (s : WR) : WR :=
  ⟨(rowQ G sets A x s.l (nextP G sets A x)).1, s.es ++ [(rowQ G sets A x s.l (nextP G sets A x)).2], s.labs ++ [labP G x.node], s.ins ++ [inP G sets A x]⟩
def wholeL (G : GR) (sets : List (List Bool)) (A : AU) (most : Int) : Nat → Nat → WR → Option WR
  | 0, _, _ => none
  | f + 1, i, s => if h : i < s.l.length then (if most < (s.l.length : Int) then none else wholeL G sets A most f (i + 1) (stepW G sets A s.l[i] s)) else some s
theorem wholeL_more {G : GR} {sets : List (List Bool)} {A : AU} {most : Int} {f i : Nat} {s : WR} (h : i < s.l.length) (hm : most < (s.l.length : Int)) : wholeL G sets A most (f + 1) i s = none := by
  unfold wholeL
  rw [dif_pos h, if_pos hm]
theorem wholeL_step {G : GR} {sets : List (List Bool)} {A : AU} {most : Int} {f i : Nat} {s : WR} (h : i < s.l.length) (hm : ¬ most < (s.l.length : Int)) : wholeL G sets A most (f + 1) i s = wholeL G sets A most f (i + 1) (stepW G sets A s.l[i] s) := by
  rw [wholeL, dif_pos h, if_neg hm]
theorem wholeL_end {G : GR} {sets : List (List Bool)} {A : AU} {most : Int} {f i : Nat} {s : WR} (h : ¬ i < s.l.length) : wholeL G sets A most (f + 1) i s = some s := by
  unfold wholeL
  rw [dif_neg h]
def upTo (n : Nat) : List Int := (List.range n).map Int.ofNat
theorem upTo_len (n : Nat) : (upTo n).length = n := by simp [upTo]
theorem upTo_succ (n : Nat) : upTo (n + 1) = upTo n ++ [(n : Int)] := by simp [upTo, List.range_succ]
def most' (m : Int) : Int := if m > 65536 then 65536 else m
/-- the whole product: an error, the first nodes, and all that belongs to the pairs -/
def wholeP (G : GR) (sets : List (List Bool)) (A : AU) (m : Int) : Int × List Int × WR :=
  if newB G sets A = true then
    if m < 0 then (11, [], ⟨[], [], [], []⟩)
    else match wholeL G sets A (most' m) 65540 0 ⟨firstP G A, [], [], []⟩ with
      | none => (11, [], ⟨[], [], [], []⟩)
      | some s => (0, upTo (firstP G A).length, s)
  else (2, [], ⟨[], [], [], []⟩)

/-! pairs that there may be -/
def vPP (G : GR) (sets : List (List Bool)) (A : AU) (x : PP) : Prop := (0 ≤ x.node ∧ x.node < (G.edges.length : Int)) ∧ (0 ≤ x.state ∧ x.state < (A.nodes.length : Int)) ∧ 0 ≤ x.turn ∧ x.turn < ((max (allS sets A) 1 : Nat) : Int)
theorem first_valid {G : GR} {sets : List (List Bool)} {A : AU} (hg : gchk G = 0) (hc : chk A = 0) : ∀ x ∈ firstP G A, vPP G sets A x := by
  have h1 := (gchk_good hg).2.2.1
  have h2 := (chk_good hc).2.2.2.1
  have key : ∀ (ns : List Int) (out : List PP), (∀ n ∈ ns, n ∈ G.init) → (∀ y ∈ out, vPP G sets A y) → ∀ y ∈ ns.foldl (fun out n => pairsP A (labP G n) n 0 out A.init) out, vPP G sets A y := by
    intro ns
    induction ns with
    | nil => intro out _ h; exact h
    | cons n ns ih =>
      intro out hn h
      rw [List.foldl_cons]
      refine ih _ (fun m hm => hn m (by simp [hm])) (pairsP_all A _ n 0 A.init out h (fun q hq => ?_))
      exact ⟨h1 n (hn n (by simp)), h2 q hq, Int.le_refl _, by show (0 : Int) < _; omega⟩
  exact key G.init [] (fun n h => h) (by simp)
theorem turn_valid {G : GR} {sets : List (List Bool)} {A : AU} {x : PP} (h : isP sets A x = true) : 0 ≤ turnP G sets A x ∧ turnP G sets A x < ((max (allS sets A) 1 : Nat) : Int) := by
  obtain ⟨k, t, _, h2, _, h4⟩ := isP_range h
  unfold turnP
  by_cases hc : 0 < allS sets A ∧ ofP G sets A x = true
  · rw [if_pos hc]
    have h0 : (0 : Int) < (allS sets A : Int) := by have := hc.1; omega
    have e1 := Int.emod_nonneg (x.turn + 1) (show (allS sets A : Int) ≠ 0 by omega)
    have e2 := Int.emod_lt_of_pos (x.turn + 1) h0
    omega
  · rw [if_neg hc, h2]
    omega
theorem next_valid {G : GR} {sets : List (List Bool)} {A : AU} (hg : gchk G = 0) (hc : chk A = 0) (x : PP) : ∀ y ∈ nextP G sets A x, vPP G sets A y := by
  unfold nextP
  by_cases hx : isP sets A x = true
  · rw [if_pos hx]
    obtain ⟨k, t, hk1, _, hk3, _⟩ := isP_range hx
    have h1 := (gchk_good hg).2.2.2
    have h2 := (chk_good hc).2.2.2.2
    have ht := turn_valid (G := G) hx
    have hto : ∀ q ∈ (nodeP A x.state).to, 0 ≤ q ∧ q < (A.nodes.length : Int) := by
      rw [hk1, nodeP_at hk3]
      exact (h2 _ (List.getElem_mem hk3)).1
    have hes : ∀ e ∈ edgesP G x.node, 0 ≤ e.1 ∧ e.1 < (G.edges.length : Int) := by
      unfold edgesP
      split
      · rename_i hin
        unfold inG at hin
        simp at hin
        have hl : x.node.toNat < G.edges.length := by omega
        rw [List.getD_eq_getElem?_getD, List.getElem?_eq_getElem hl]
        exact h1 _ (List.getElem_mem hl)
      · simp
    have key : ∀ (es : List PR) (out : List PP), (∀ e ∈ es, 0 ≤ e.1 ∧ e.1 < (G.edges.length : Int)) → (∀ y ∈ out, vPP G sets A y) → ∀ y ∈ es.foldl (fun out e => pairsP A (labP G e.1) e.1 (turnP G sets A x) out (nodeP A x.state).to) out, vPP G sets A y := by
      intro es
      induction es with
      | nil => intro out _ h; exact h
      | cons n ns ih =>
        intro out hn h
        rw [List.foldl_cons]
        refine ih _ (fun m hm => hn m (by simp [hm])) (pairsP_all A _ n.1 _ _ out h (fun q hq => ?_))
        exact ⟨hn n (by simp), hto q hq, ht⟩
    exact key _ [] hes (by simp)
  · rw [if_neg hx]
    simp
theorem first_nodup (G : GR) (A : AU) : (firstP G A).Nodup := by
  have key : ∀ (ns : List Int) (out : List PP), out.Nodup → (ns.foldl (fun out n => pairsP A (labP G n) n 0 out A.init) out).Nodup := by
    intro ns
    induction ns with
    | nil => intro out h; exact h
    | cons n ns ih => intro out h; rw [List.foldl_cons]; exact ih _ (pairsP_nodup _ _ _ _ _ _ h)
  exact key _ _ List.nodup_nil
theorem okPP_of {G : GR} {sets : List (List Bool)} {A : AU} (lt : Lt G sets A) (hc : chk A = 0) (hs : sets.length ≤ 16) {x : PP} (h : vPP G sets A x) : okPP x := by
  have h1 := lt.e
  have h2 := lt.n
  obtain ⟨_, h4, _⟩ := chk_sets hc
  have h5 : allS sets A ≤ 40 := by unfold allS; omega
  obtain ⟨⟨a, b⟩, ⟨c, d⟩, e, f⟩ := h
  exact ⟨wf_small a (by omega), wf_small c (by omega), wf_small e (by omega)⟩
theorem numQ_take {L : List PP} (h : L.Nodup) {j : Nat} (hj : j < L.length) : numQ (L.take j) L[j] = (L.take (j + 1), j) := by
  have hn : L[j] ∉ L.take j := by
    intro hm
    obtain ⟨i, hi, e⟩ := List.mem_iff_getElem.1 hm
    rw [List.length_take] at hi
    rw [List.getElem_take] at e
    have := (List.getElem_inj h).1 e
    omega
  unfold numQ
  rw [if_neg hn, List.take_add_one, List.getElem?_eq_getElem hj, List.length_take]
  simp
  omega
theorem numQ_len (l : List PP) (x : PP) : l.length ≤ (numQ l x).1.length ∧ (numQ l x).1.length ≤ l.length + 1 := by
  unfold numQ
  split <;> simp
theorem numQ_mem {l : List PP} {x y : PP} (h : y ∈ (numQ l x).1) : y ∈ l ∨ y = x := by
  unfold numQ at h
  split at h
  · exact .inl h
  · simpa using h
theorem rowQ_len (G : GR) (sets : List (List Bool)) (A : AU) (x : PP) (l ys : List PP) : l.length ≤ (rowQ G sets A x l ys).1.length ∧ (rowQ G sets A x l ys).1.length ≤ l.length + ys.length := by
  induction ys using snoc_rec with
  | h0 => exact ⟨Nat.le_refl _, Nat.le_refl _⟩
  | h1 ys y ih =>
    rw [rowQ_snoc, List.length_append]
    have := numQ_len (rowQ G sets A x l ys).1 y
    show l.length ≤ (numQ (rowQ G sets A x l ys).1 y).1.length ∧ (numQ (rowQ G sets A x l ys).1 y).1.length ≤ l.length + (ys.length + 1)
    omega
theorem rowQ_row (G : GR) (sets : List (List Bool)) (A : AU) (x : PP) (l ys : List PP) : (rowQ G sets A x l ys).2.length = ys.length := by
  induction ys using snoc_rec with
  | h0 => rfl
  | h1 ys y ih => rw [rowQ_snoc, List.length_append, ← ih]; simp [rowStep]
theorem rowQ_all {p : PP → Prop} (G : GR) (sets : List (List Bool)) (A : AU) (x : PP) {l ys : List PP} (hl : ∀ y ∈ l, p y) (hy : ∀ y ∈ ys, p y) : ∀ y ∈ (rowQ G sets A x l ys).1, p y := by
  induction ys using snoc_rec with
  | h0 => exact hl
  | h1 ys y ih =>
    rw [rowQ_snoc]
    intro z hz
    rcases numQ_mem hz with h | h
    · exact ih (fun z hz => hy z (by simp [hz])) z h
    · rw [h]; exact hy y (by simp)
/-- what was there stays there -/
theorem numQ_old {l : List PP} {x : PP} {i : Nat} (hi : i < l.length) : (numQ l x).1[i]? = some l[i] := by
  unfold numQ
  split
  · exact List.getElem?_eq_getElem hi
  · show (l ++ [x])[i]? = _
    rw [List.getElem?_append_left hi, List.getElem?_eq_getElem hi]
theorem rowQ_old (G : GR) (sets : List (List Bool)) (A : AU) (x : PP) (l ys : List PP) {i : Nat} (hi : i < l.length) : (rowQ G sets A x l ys).1[i]? = some l[i] := by
  induction ys using snoc_rec with
  | h0 => exact List.getElem?_eq_getElem hi
  | h1 ys y ih =>
    rw [rowQ_snoc]
    have hl := (rowQ_len G sets A x l ys).1
    have h1 := numQ_old (l := (rowQ G sets A x l ys).1) (x := y) (i := i) (by omega)
    have h2 : (rowQ G sets A x l ys).1[i]'(by omega) = l[i] := by
      rw [List.getElem?_eq_getElem (by omega)] at ih
      exact Option.some.inj ih
    rw [h2] at h1
    exact h1
end Go.Proofs.Ytmlbjfaofppikaa
