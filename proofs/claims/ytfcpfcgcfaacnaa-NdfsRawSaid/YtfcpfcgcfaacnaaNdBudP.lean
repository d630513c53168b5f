/- What a search counts, and what another budget leaves as it is: plain. No conditions. -/
import Derived.Test.YtfcpfcgcfaacnaaNdSearchP
namespace Go.Proofs.Ytfcpfcgcfaacnaa

/-- a budget that a finding fits: no less than was counted, and just that much of what was used up -/
structure Fits (b : NB) (nodes depth : Nat) (why : Nat) : Prop where
  n : nodes ≤ b.n
  d : depth ≤ b.d
  n1 : why = 1 → b.n ≤ nodes
  d2 : why = 2 → b.d ≤ depth
/-- the counts of what is told are those of the search -/
def Cnt (s : NS) (o : Option NF) : Prop := ∀ e, o = some e → e.nodes = s.nodes ∧ e.edges = s.edges ∧ e.depth = s.depth
def whyO : Option NF → Nat
  | none => 0
  | some e => e.why
section
variable {b c : NB} {nx : PP → List PP} {inq : PP → Bool} {p : PP → Prop} {C : Nat}
theorem over_cnt (s : NS) (y : Nat) : Cnt s (some (overP s y)) := by
  intro e he; cases he; exact ⟨rfl, rfl, rfl⟩
theorem fail_cnt (s : NS) (y : PP) (st : List (PP × Nat)) : Cnt s (some (failP s y st)) := by
  intro e he; cases he; exact ⟨rfl, rfl, rfl⟩
theorem none_cnt (s : NS) : Cnt s none := by intro e he; cases he
theorem innerF_mono : ∀ (f : Nat) (s : NS) (st : List (PP × Nat)) (s1 : NS) (o : Option NF), innerF b nx f s st = (s1, o) → s.depth ≤ s1.depth ∧ s1.nodes = s.nodes ∧ Cnt s1 o := by
  intro f
  induction f with
  | zero => intro s st s1 o hr; rw [innerF] at hr; cases hr; exact ⟨Nat.le_refl _, rfl, none_cnt _⟩
  | succ f ih =>
    intro s st s1 o hr
    match st, hr with
    | [], hr => rw [innerF_nil] at hr; cases hr; exact ⟨Nat.le_refl _, rfl, none_cnt _⟩
    | (x, k) :: r, hr =>
      cases hy : (nx x)[k]? with
      | none => rw [innerF_pop hy] at hr; exact ih _ _ _ _ hr
      | some y =>
        by_cases h1 : y ∈ way s.ot
        · rw [innerF_fail hy h1] at hr
          cases hr
          exact ⟨Nat.le_refl _, rfl, fail_cnt _ _ _⟩
        · by_cases h2 : y ∈ s.marked
          · rw [innerF_skip hy h1 h2] at hr
            exact ih (edgeS s) _ _ _ hr
          · by_cases h3 : b.d < s.ot.length + (r.length + 1)
            · rw [innerF_over hy h1 h2 h3] at hr
              cases hr
              exact ⟨Nat.le_refl _, rfl, over_cnt _ _⟩
            · rw [innerF_push hy h1 h2 h3] at hr
              obtain ⟨q1, q2, q3⟩ := ih _ _ _ _ hr
              have : (deepS (markS (edgeS s) y) (s.ot.length + (r.length + 1))).depth = max s.depth (s.ot.length + (r.length + 1)) := rfl
              exact ⟨by omega, q2, q3⟩
theorem innerF_bud : ∀ (f : Nat) (s : NS) (st : List (PP × Nat)) (s1 : NS) (o : Option NF), s.depth ≤ b.d → innerF b nx f s st = (s1, o) → s1.depth ≤ c.d → (whyO o = 2 → c.d ≤ s1.depth) → innerF c nx f s st = (s1, o) := by
  intro f
  induction f with
  | zero => intro s st s1 o _ hr _ _; rw [innerF] at hr ⊢; exact hr
  | succ f ih =>
    intro s st s1 o hd hr hc hw
    match st, hr with
    | [], hr => rw [innerF_nil] at hr ⊢; exact hr
    | (x, k) :: r, hr =>
      cases hy : (nx x)[k]? with
      | none => rw [innerF_pop hy] at hr ⊢; exact ih _ _ _ _ hd hr hc hw
      | some y =>
        by_cases h1 : y ∈ way s.ot
        · rw [innerF_fail hy h1] at hr ⊢; exact hr
        · by_cases h2 : y ∈ s.marked
          · rw [innerF_skip hy h1 h2] at hr ⊢
            exact ih (edgeS s) _ _ _ hd hr hc hw
          · by_cases h3 : b.d < s.ot.length + (r.length + 1)
            · rw [innerF_over hy h1 h2 h3] at hr
              cases hr
              have h4 : c.d ≤ s.depth := hw rfl
              rw [innerF_over hy h1 h2 (by omega)]
            · rw [innerF_push hy h1 h2 h3] at hr
              have hm := (innerF_mono _ _ _ _ _ hr).1
              have h5 : (deepS (markS (edgeS s) y) (s.ot.length + (r.length + 1))).depth = max s.depth (s.ot.length + (r.length + 1)) := rfl
              rw [innerF_push hy h1 h2 (by omega)]
              exact ih _ _ _ _ (by omega) hr hc hw
theorem comeP_cases (b : NB) (s : NS) (x : PP) : (b.n ≤ s.nodes ∧ comeP b s x = (s, some (overP s 1))) ∨ (¬ b.n ≤ s.nodes ∧ b.d < s.ot.length + 1 ∧ comeP b s x = (reachS s x, some (overP (reachS s x) 2))) ∨ (¬ b.n ≤ s.nodes ∧ ¬ b.d < s.ot.length + 1 ∧ comeP b s x = (pushS (reachS s x) x, none)) := by
  by_cases h1 : b.n ≤ s.nodes
  · exact .inl ⟨h1, comeP_n h1⟩
  · by_cases h2 : b.d < s.ot.length + 1
    · exact .inr (.inl ⟨h1, h2, comeP_d h1 h2⟩)
    · exact .inr (.inr ⟨h1, h2, comeP_ok h1 h2⟩)
theorem comeP_mono {s s1 : NS} {x : PP} {o : Option NF} (h : comeP b s x = (s1, o)) : s.depth ≤ s1.depth ∧ s.nodes ≤ s1.nodes ∧ Cnt s1 o := by
  rcases comeP_cases b s x with ⟨_, hr⟩ | ⟨_, _, hr⟩ | ⟨_, _, hr⟩
  · rw [hr] at h; cases h; exact ⟨Nat.le_refl _, Nat.le_refl _, over_cnt _ _⟩
  · rw [hr] at h; cases h; exact ⟨Nat.le_refl _, Nat.le_succ _, over_cnt _ _⟩
  · rw [hr] at h; cases h; exact ⟨Nat.le_max_left _ _, Nat.le_succ _, none_cnt _⟩
theorem comeP_bud {s s1 : NS} {x : PP} {o : Option NF} (hd : s.depth ≤ b.d) (h : comeP b s x = (s1, o)) (hf : Fits c s1.nodes s1.depth (whyO o)) : comeP c s x = (s1, o) := by
  obtain ⟨f1, f2, f3, f4⟩ := hf
  rcases comeP_cases b s x with ⟨h1, hr⟩ | ⟨h1, h2, hr⟩ | ⟨h1, h2, hr⟩
  · rw [hr] at h; cases h; exact comeP_n (f3 rfl)
  · rw [hr] at h; cases h
    have q1 : s.nodes + 1 ≤ c.n := f1
    have q2 : c.d ≤ s.depth := f4 rfl
    exact comeP_d (by omega) (by omega)
  · rw [hr] at h; cases h
    have q1 : s.nodes + 1 ≤ c.n := f1
    have q2 : max s.depth (s.ot.length + 1) ≤ c.d := f2
    exact comeP_ok (by omega) (by omega)
theorem outerF_mono : ∀ (f : Nat) (s s1 : NS) (o : Option NF), outerF b nx inq f s = (s1, o) → s.depth ≤ s1.depth ∧ s.nodes ≤ s1.nodes ∧ Cnt s1 o := by
  intro f
  induction f with
  | zero => intro s s1 o hr; rw [outerF] at hr; cases hr; exact ⟨Nat.le_refl _, Nat.le_refl _, none_cnt _⟩
  | succ f ih =>
    intro s s1 o hr
    cases ho : s.ot with
    | nil => rw [outerF_nil ho] at hr; cases hr; exact ⟨Nat.le_refl _, Nat.le_refl _, none_cnt _⟩
    | cons xk r =>
      obtain ⟨x, k⟩ := xk
      cases hy : (nx x)[k]? with
      | some y =>
        by_cases q : y ∈ s.reached
        · rw [outerF_skip ho hy q] at hr
          exact ih (atS (edgeS s) ((x, k + 1) :: r)) _ _ hr
        · cases hc : comeP b (atS (edgeS s) ((x, k + 1) :: r)) y with
          | mk s2 e =>
            have hm := comeP_mono hc
            have e1 : (atS (edgeS s) ((x, k + 1) :: r)).depth = s.depth := rfl
            have e2 : (atS (edgeS s) ((x, k + 1) :: r)).nodes = s.nodes := rfl
            cases e with
            | some e => rw [outerF_end ho hy q hc] at hr; cases hr; exact ⟨by omega, by omega, hm.2.2⟩
            | none =>
              rw [outerF_come ho hy q hc] at hr
              have := ih _ _ _ hr
              exact ⟨by omega, by omega, this.2.2⟩
      | none =>
        cases hi : inq x with
        | false =>
          rw [outerF_pop ho hy hi] at hr
          exact ih (atS s r) _ _ hr
        | true =>
          cases hc : innerF b nx FI s [(x, 0)] with
          | mk s2 e =>
            have hm := innerF_mono _ _ _ _ _ hc
            cases e with
            | some e => rw [outerF_fail ho hy hi hc] at hr; cases hr; exact ⟨hm.1, by omega, hm.2.2⟩
            | none =>
              rw [outerF_in ho hy hi hc] at hr
              have := ih _ _ _ hr
              have e1 : (atS s2 r).depth = s2.depth := rfl
              have e2 : (atS s2 r).nodes = s2.nodes := rfl
              exact ⟨by omega, by omega, this.2.2⟩
/-- nothing was used up where a search is not over with a finding -/
theorem fits_of {c : NB} {n d n1 d1 : Nat} {y : Nat} (h : Fits c n1 d1 y) (hn : n ≤ n1) (hd : d ≤ d1) : Fits c n d 0 :=
  ⟨Nat.le_trans hn h.n, Nat.le_trans hd h.d, (fun e => by cases e), (fun e => by cases e)⟩
theorem outerF_bud (N : Nice nx p C) : ∀ (f : Nat) (s s1 : NS) (o : Option NF), NInv b nx p s → muO C s < f → outerF b nx inq f s = (s1, o) → Fits c s1.nodes s1.depth (whyO o) → outerF c nx inq f s = (s1, o) := by
  intro f
  induction f with
  | zero => intro s s1 o _ hm _ _; omega
  | succ f ih =>
    intro s s1 o h hm hr hf
    cases ho : s.ot with
    | nil => rw [outerF_nil ho] at hr ⊢; exact hr
    | cons xk r =>
      obtain ⟨x, k⟩ := xk
      cases hy : (nx x)[k]? with
      | some y =>
        have A := AdvO.of (inq := inq) N ho h rfl hm hy
        by_cases q : y ∈ s.reached
        · rw [outerF_skip ho hy q] at hr ⊢
          exact ih _ _ _ A.inv A.mu hr hf
        · cases hc : comeP b (atS (edgeS s) ((x, k + 1) :: r)) y with
          | mk s2 e =>
            cases e with
            | some e =>
              rw [outerF_end ho hy q hc] at hr
              cases hr
              exact outerF_end ho hy q (comeP_bud A.inv.db hc hf)
            | none =>
              obtain ⟨q1, q2, q3, q4⟩ := A.come _ q hc
              rw [outerF_come ho hy q hc] at hr
              have hm2 := outerF_mono _ _ _ _ hr
              rw [outerF_come ho hy q (comeP_bud A.inv.db hc (fits_of hf hm2.2.1 hm2.1))]
              exact ih _ _ _ q3 q2 hr hf
      | none =>
        have A := AdvE.of (inq := inq) N ho h rfl hm hy
        cases hi : inq x with
        | false =>
          obtain ⟨q1, q2, q3⟩ := A.pop hi
          rw [outerF_pop ho hy hi] at hr ⊢
          exact ih _ _ _ q3 q2 hr hf
        | true =>
          cases hc : innerF b nx FI s [(x, 0)] with
          | mk s2 e =>
            cases e with
            | some e =>
              rw [outerF_fail ho hy hi hc] at hr
              cases hr
              exact outerF_fail ho hy hi (innerF_bud _ _ _ _ _ h.db hc hf.d hf.d2)
            | none =>
              obtain ⟨q1, q2, q3, q4, q5, q6⟩ := A.into _ hi hc
              rw [outerF_in ho hy hi hc] at hr
              have hm2 := outerF_mono _ _ _ _ hr
              rw [outerF_in ho hy hi (innerF_bud _ _ _ _ _ h.db hc (Nat.le_trans hm2.1 hf.d) (fun e => by cases e))]
              exact ih _ _ _ q3 q2 hr hf
theorem fromF_mono {s s1 : NS} {x : PP} {o : Option NF} (h : fromF b nx inq s x = (s1, o)) : s.depth ≤ s1.depth ∧ s.nodes ≤ s1.nodes ∧ Cnt s1 o := by
  cases hc : comeP b s x with
  | mk s2 e =>
    have hm := comeP_mono hc
    cases e with
    | some e => rw [fromF_some hc] at h; cases h; exact hm
    | none =>
      rw [fromF_none hc] at h
      have := outerF_mono _ _ _ _ h
      exact ⟨by omega, by omega, this.2.2⟩
theorem fromF_bud (N : Nice nx p C) (hC : C ≤ 3200) {s s1 : NS} {x : PP} {o : Option NF} (h : NInv b nx p s) (ho : s.ot = []) (hx : x ∉ s.reached) (hp : p x) (hr : fromF b nx inq s x = (s1, o)) (hf : Fits c s1.nodes s1.depth (whyO o)) : fromF c nx inq s x = (s1, o) := by
  cases hc : comeP b s x with
  | mk s2 e =>
    cases e with
    | some e =>
      rw [fromF_some hc] at hr
      cases hr
      exact fromF_some (comeP_bud h.db hc hf)
    | none =>
      rw [fromF_none hc] at hr
      have hm2 := outerF_mono _ _ _ _ hr
      obtain ⟨q1, q2, e2⟩ := comeP_none hc
      rw [fromF_none (comeP_bud h.db hc (fits_of hf hm2.2.1 hm2.1))]
      subst e2
      exact outerF_bud N FO _ _ _ (h.come hx hp q1 q2) (muO_start C (reachS s x) x ho hC) hr hf
theorem searchF_mono : ∀ (l : List PP) (s : NS), s.depth ≤ (searchF b nx inq l s).depth ∧ s.nodes ≤ (searchF b nx inq l s).nodes
  | [], s => ⟨Nat.le_refl _, Nat.le_refl _⟩
  | x :: l, s => by
    by_cases hx : x ∈ s.reached
    · rw [searchF_skip hx]; exact searchF_mono l s
    · cases hc : fromF b nx inq s x with
      | mk s1 o =>
        have hm := fromF_mono hc
        cases o with
        | some e =>
          rw [searchF_end hx hc]
          have := hm.2.2 e rfl
          omega
        | none =>
          rw [searchF_go hx hc]
          have := searchF_mono l s1
          omega
/-- A BUDGET THAT A FINDING FITS LEAVES IT AS IT IS -/
theorem searchF_bud (N : Nice nx p C) (hC : C ≤ 3200) : ∀ (l : List PP) (s : NS), (∀ x ∈ l, p x) → NInv b nx p s → s.ot = [] → Fits c (searchF b nx inq l s).nodes (searchF b nx inq l s).depth (searchF b nx inq l s).why → searchF c nx inq l s = searchF b nx inq l s
  | [], s, _, _, _, _ => rfl
  | x :: l, s, hl, h, ho, hf => by
    by_cases hx : x ∈ s.reached
    · rw [searchF_skip hx] at hf ⊢
      rw [searchF_skip hx]
      exact searchF_bud N hC l s (fun y hy => hl y (.tail _ hy)) h ho hf
    · cases hc : fromF b nx inq s x with
      | mk s1 o =>
        have hm := fromF_mono hc
        cases o with
        | some e =>
          rw [searchF_end hx hc] at hf ⊢
          obtain ⟨e1, _, e3⟩ := hm.2.2 e rfl
          rw [e1, e3] at hf
          exact searchF_end hx (fromF_bud N hC h ho hx (hl x (.head _)) hc hf)
        | none =>
          rw [searchF_go hx hc] at hf ⊢
          have hm2 := searchF_mono (b := b) (nx := nx) (inq := inq) l s1
          rw [searchF_go hx (fromF_bud N hC h ho hx (hl x (.head _)) hc (fits_of hf hm2.2 hm2.1))]
          obtain ⟨q1, q2, _⟩ := fromF_done N hC h ho hx (hl x (.head _)) hc
          exact searchF_bud N hC l s1 (fun y hy => hl y (.tail _ hy)) q1 q2 hf
end
end Go.Proofs.Ytfcpfcgcfaacnaa
