/- A region that draws its order: each of its first T operations is shown once, whatever came ahead of it; those behind wait for all of these. No conditions. -/
import Derived.Test.YtjacphcnanopjaaDoorBase
import Derived.RegionTactic
namespace Go.Proofs.YtjacphcnanopjaaDoor
open Go.RowKit
section
variable {P : Program} {ops : Array Oper} {Q : Exit → Act → World → Prop} {md : Region.Mode} {T : Nat}

/-- the operations that a number waits for -/
def depsOf (md : Region.Mode) (ops : Array Oper) (i : Nat) : List Nat := match ops[i]? with
  | none => []
  | some o => (o.after.toList.filter (Region.binds md)).map (·.on)
def cloL (md : Region.Mode) (ops : Array Oper) : Nat → List Nat → List Nat
  | 0, S => S
  | f + 1, S => cloL md ops f ((S ++ S.flatMap (depsOf md ops)).eraseDups)
/-- the slot of each of the first T is its own, each waits for those ahead of it alone -/
def freeB (md : Region.Mode) (ops : Array Oper) (T sz : Nat) : Bool :=
  (List.range T).all fun i => match ops[i]? with
    | none => false
    | some o => (match o.dst with
      | none => true
      | some d => decide (d < sz) && (List.range i).all (fun j => ((ops[j]?).bind (·.dst)) != some d)) && (depsOf md ops i).all (fun j => decide (j < i))
/-- those from T on wait for all of the first T, one through the other -/
def waitB (md : Region.Mode) (ops : Array Oper) (T : Nat) : Bool :=
  (List.range ops.size).all fun j => decide (j < T) || (List.range T).all fun i => (cloL md ops 6 (depsOf md ops j)).contains i
theorem wpAny_more : ∀ (fuel : Nat) (listed : Array Bool) (a : Act) (w : World), wpAny P md ops Q fuel listed a w → wpAny P md ops Q (fuel + 1) listed a w
  | 0, listed, a, w, h => ⟨fun _ => h.2, fun i hi => by rw [h.1] at hi; cases hi⟩
  | fuel + 1, listed, a, w, h => ⟨h.1, fun i hi => wpOp_mono (fun a' w' h' => wpAny_more fuel _ a' w' h') (h.2 i hi)⟩
theorem wpAny_le {n m : Nat} (h : n ≤ m) {listed : Array Bool} {a : Act} {w : World} (H : wpAny P md ops Q n listed a w) : wpAny P md ops Q m listed a w := by
  obtain ⟨k, rfl⟩ := Nat.le.dest h
  clear h
  induction k with
  | zero => exact H
  | succ k ih => exact wpAny_more _ _ _ _ ih
def remL (listed : Array Bool) : Nat → Nat
  | 0 => 0
  | k + 1 => remL listed k + if listed.getD k false = true then 0 else 1
theorem getD_same {listed : Array Bool} {i : Nat} (h : i < listed.size) (d : Bool) : (listed.setIfInBounds i true).getD i d = true := by
  rw [Array.getD_eq_getD_getElem?, Array.getElem?_setIfInBounds_self_of_lt h]; rfl
theorem remL_same {listed : Array Bool} {i : Nat} : ∀ T, T ≤ i → remL (listed.setIfInBounds i true) T = remL listed T
  | 0, _ => rfl
  | T + 1, h => by
    rw [remL, remL, remL_same T (by omega), getD_set_ne false (by omega)]
theorem remL_set {listed : Array Bool} {i : Nat} (hz : i < listed.size) (hi : listed.getD i false = false) : ∀ T, i < T → remL (listed.setIfInBounds i true) T + 1 = remL listed T
  | 0, h => by omega
  | T + 1, h => by
    rw [remL, remL]
    by_cases he : i = T
    · subst he
      rw [remL_same i (Nat.le_refl _), getD_same hz, hi]
      simp
    · rw [getD_set_ne false he]
      have := remL_set hz hi T (by omega)
      omega
theorem remL_le (listed : Array Bool) : ∀ T, remL listed T ≤ T
  | 0 => Nat.le_refl _
  | T + 1 => by
    rw [remL]
    have := remL_le listed T
    split <;> omega
theorem clo_listed {listed : Array Bool} (hc : ∀ i, listed.getD i false = true → ∀ j ∈ depsOf md ops i, listed.getD j false = true) : ∀ (f : Nat) (S : List Nat), (∀ i ∈ S, listed.getD i false = true) → ∀ i ∈ cloL md ops f S, listed.getD i false = true
  | 0, _, h => h
  | f + 1, S, h => by
    refine clo_listed hc f _ (fun i hi => ?_)
    rw [List.mem_eraseDups, List.mem_append, List.mem_flatMap] at hi
    rcases hi with hi | ⟨k, hk, hi⟩
    · exact h i hi
    · exact hc k (h k hk) i hi
theorem deps_ready {listed : Array Bool} {i : Nat} (h : i ∈ Region.ready md ops listed) : ∀ j ∈ depsOf md ops i, listed.getD j false = true := by
  obtain ⟨_, o, ho, hd⟩ := mem_ready.1 h
  intro j hj
  unfold depsOf at hj
  rw [ho] at hj
  simp only [List.mem_map, List.mem_filter] at hj
  obtain ⟨e, ⟨h1, h2⟩, rfl⟩ := hj
  exact hd e (by simpa using h1) h2
/-- the first T are listed, no other one -/
def firstL (ops : Array Oper) (T : Nat) : Array Bool := ((List.range ops.size).map fun i => decide (i < T)).toArray
/-- what holds while the first T come -/
structure FreeI (P : Program) (md : Region.Mode) (ops : Array Oper) (T : Nat) (R : World → Prop) (V : Nat → Value → World → Prop) (D : Nat → Nat → Value → Value → Prop) (a0 : Act) (listed : Array Bool) (a : Act) (w : World) : Prop where
  lsz : listed.size = ops.size
  hi : ∀ j, T ≤ j → listed.getD j false = false
  clo : ∀ i, listed.getD i false = true → ∀ j ∈ depsOf md ops i, listed.getD j false = true
  df : a.defers = a0.defers
  asz : a.tmps.size = a0.tmps.size
  fr : ∀ k, (∀ i, i < T → (ops[i]?).bind (·.dst) ≠ some k) → a.tmps.getD k undef = a0.tmps.getD k undef
  r : R w
  v : ∀ i d, i < T → listed.getD i false = true → (ops[i]?).bind (·.dst) = some d → V i (a.tmps.getD d undef) w
  d : ∀ i j d d', i < T → j < T → i ≠ j → listed.getD i false = true → listed.getD j false = true → (ops[i]?).bind (·.dst) = some d → (ops[j]?).bind (·.dst) = some d' → D i j (a.tmps.getD d undef) (a.tmps.getD d' undef)
/-- one operation of the first T -/
def FreeS (P : Program) (md : Region.Mode) (ops : Array Oper) (T : Nat) (Q : Exit → Act → World → Prop) (R : World → Prop) (C : World → World → Prop) (V : Nat → Value → World → Prop) (N : Nat → World → Value → Prop) (a0 : Act) (i : Nat) : Prop :=
  ∀ o, ops[i]? = some o → ∀ a w, R w → (∀ k, (∀ i, i < T → (ops[i]?).bind (·.dst) ≠ some k) → a.tmps.getD k undef = a0.tmps.getD k undef) →
    (∀ j ∈ depsOf md ops i, ∀ d, (ops[j]?).bind (·.dst) = some d → V j (a.tmps.getD d undef) w) →
    ∀ K : Act → World → Prop, (∀ v w', R w' → C w w' → N i w v → V i v w' → K (a.put o.dst v) w') → if Region.wanted o (yielded ops a.tmps) = true then Oper.wp P o a w K Q else K (a.put o.dst undef) w
theorem free_parts {sz : Nat} (h : freeB md ops T sz = true) {i : Nat} (hi : i < T) : ∃ o, ops[i]? = some o ∧ (∀ d, o.dst = some d → d < sz ∧ ∀ j, j < i → (ops[j]?).bind (·.dst) ≠ some d) ∧ ∀ j ∈ depsOf md ops i, j < i := by
  unfold freeB at h
  rw [List.all_eq_true] at h
  have h1 := h i (List.mem_range.2 hi)
  cases ho : ops[i]? with
  | none => rw [ho] at h1; simp at h1
  | some o =>
    rw [ho] at h1
    refine ⟨o, rfl, fun d hd => ?_, ?_⟩
    · simp only [hd, Bool.and_eq_true, decide_eq_true_eq, List.all_eq_true, bne_iff_ne, List.mem_range] at h1
      exact h1.1
    · simp only [Bool.and_eq_true, List.all_eq_true, decide_eq_true_eq] at h1
      exact h1.2
theorem put_size (a : Act) (d : Option Nat) (v : Value) : (a.put d v).tmps.size = a.tmps.size := by cases d <;> simp [Act.put]
theorem put_defers (a : Act) (d : Option Nat) (v : Value) : (a.put d v).defers = a.defers := by cases d <;> rfl
theorem put_same (a : Act) {d : Nat} (h : d < a.tmps.size) (v : Value) : (a.put (some d) v).tmps.getD d undef = v := by
  show (a.tmps.setIfInBounds d v).getD d undef = v
  rw [Array.getD_eq_getD_getElem?, Array.getElem?_setIfInBounds_self_of_lt h]; rfl
theorem put_other (a : Act) {o : Option Nat} {k : Nat} (h : o ≠ some k) (v : Value) : (a.put o v).tmps.getD k undef = a.tmps.getD k undef := by
  cases o with
  | none => rfl
  | some d =>
    have hkd : d ≠ k := fun e => h (by rw [e])
    show (a.tmps.setIfInBounds d v).getD k undef = _
    rw [Array.getD_eq_getD_getElem?, Array.getElem?_setIfInBounds_ne hkd, ← Array.getD_eq_getD_getElem?]
/-- two of the first T write no slot in common -/
theorem free_apart {sz : Nat} (hf : freeB md ops T sz = true) {i j d : Nat} (hi : i < T) (hj : j < T) (hij : i ≠ j) (h1 : (ops[i]?).bind (·.dst) = some d) (h2 : (ops[j]?).bind (·.dst) = some d) : False := by
  obtain ⟨oi, hoi, p1, _⟩ := free_parts hf hi
  obtain ⟨oj, hoj, p2, _⟩ := free_parts hf hj
  rcases Nat.lt_or_gt_of_ne hij with h' | h'
  · refine (p2 d ?_).2 i h' h1
    rw [hoj] at h2; exact h2
  · refine (p1 d ?_).2 j h' h2
    rw [hoi] at h1; exact h1
theorem wpAny_free {R : World → Prop} {C : World → World → Prop} {V : Nat → Value → World → Prop} {N : Nat → World → Value → Prop} {D : Nat → Nat → Value → Value → Prop} {a0 : Act}
    (hD : ∀ i j v u w, i ≠ j → N i w v → V j u w → D i j v u ∧ D j i u v)
    (hV : ∀ i v w w', V i v w → C w w' → V i v w')
    (hf : freeB md ops T a0.tmps.size = true) (hw : waitB md ops T = true) (hT : T ≤ ops.size)
    (step : ∀ i, i < T → FreeS P md ops T Q R C V N a0 i)
    (last : ∀ a w, a.defers = a0.defers → a.tmps.size = a0.tmps.size → (∀ k, (∀ i, i < T → (ops[i]?).bind (·.dst) ≠ some k) → a.tmps.getD k undef = a0.tmps.getD k undef) →
      R w → (∀ i d, i < T → (ops[i]?).bind (·.dst) = some d → V i (a.tmps.getD d undef) w) → (∀ i j d d', i < T → j < T → i ≠ j → (ops[i]?).bind (·.dst) = some d → (ops[j]?).bind (·.dst) = some d' → D i j (a.tmps.getD d undef) (a.tmps.getD d' undef)) → wpAny P md ops Q (ops.size - T) (firstL ops T) a w) :
    ∀ (fuel : Nat) (listed : Array Bool) (a : Act) (w : World), FreeI P md ops T R V D a0 listed a w → remL listed T + (ops.size - T) ≤ fuel → wpAny P md ops Q fuel listed a w := by
  intro fuel
  induction fuel with
  | zero =>
    intro listed a w I hl
    have hall : ∀ i, i < T → listed.getD i false = true := by
      have : ∀ n, remL listed n = 0 → ∀ i, i < n → listed.getD i false = true := by
        intro n
        induction n with
        | zero => intro _ i hi; omega
        | succ n ih =>
          intro h i hi
          rw [remL] at h
          by_cases he : i = n
          · subst he
            by_cases hb : listed.getD i false = true
            · exact hb
            · rw [if_neg hb] at h; omega
          · exact ih (by omega) i (by omega)
      exact this T (by omega)
    have hle : listed = firstL ops T := by
      apply Array.ext
      · rw [I.lsz]; simp [firstL]
      · intro i h1 h2
        have e : listed.getD i false = listed[i] := by simp [Array.getD, h1]
        rw [← e]
        have hi : i < ops.size := by rw [← I.lsz]; exact h1
        rw [hall i (by omega)]
        simp [firstL]
        omega
    rw [hle]
    exact wpAny_le (by omega) (last a w I.df I.asz I.fr I.r (fun i d hi hd => I.v i d hi (hall i hi) hd) (fun i j d d' hi hj hij h1 h2 => I.d i j d d' hi hj hij (hall i hi) (hall j hj) h1 h2))
  | succ fuel ih =>
    intro listed a w I hl
    by_cases hall : ∀ i, i < T → listed.getD i false = true
    · have hle : listed = firstL ops T := by
        apply Array.ext
        · rw [I.lsz]; simp [firstL]
        · intro i h1 h2
          have e : listed.getD i false = listed[i] := by simp [Array.getD, h1]
          rw [← e]
          have hi : i < ops.size := by rw [← I.lsz]; exact h1
          by_cases hiT : i < T
          · rw [hall i hiT]; simp [firstL, hiT]
          · rw [I.hi i (by omega)]; simp [firstL, hiT]
      rw [hle]
      exact wpAny_le (by omega) (last a w I.df I.asz I.fr I.r (fun i d hi hd => I.v i d hi (hall i hi) hd) (fun i j d d' hi hj hij h1 h2 => I.d i j d d' hi hj hij (hall i hi) (hall j hj) h1 h2))
    · have hne : ∃ i, i < T ∧ i ∈ Region.ready md ops listed := by
        have : ∀ n i, i < n → i < T → listed.getD i false = false → ∃ i, i < T ∧ i ∈ Region.ready md ops listed := by
          intro n
          induction n with
          | zero => intro i h; omega
          | succ n ihn =>
            intro i hin hiT hf0
            obtain ⟨o, ho, _, hdep⟩ := free_parts hf hiT
            by_cases hd : ∀ j ∈ depsOf md ops i, listed.getD j false = true
            · refine ⟨i, hiT, mem_ready.2 ⟨?_, o, ho, fun e he hb => hd e.on ?_⟩⟩
              · have hz : i < listed.size := by rw [I.lsz]; omega
                simpa [Array.getD, hz] using hf0
              · unfold depsOf
                rw [ho]
                simp only [List.mem_map, List.mem_filter]
                exact ⟨e, ⟨by simpa using he, hb⟩, rfl⟩
            · obtain ⟨j, hj⟩ := Classical.not_forall.1 hd
              obtain ⟨hj1, hj2⟩ := Classical.not_imp.1 hj
              have := hdep j hj1
              exact ihn j (by omega) (by omega) (by simpa using hj2)
        obtain ⟨i, hi⟩ := Classical.not_forall.1 hall
        obtain ⟨hi1, hi2⟩ := Classical.not_imp.1 hi
        exact this (i + 1) i (by omega) hi1 (by simpa using hi2)
      refine ⟨fun h0 => ?_, fun i hi => ?_⟩
      · obtain ⟨i, _, hi⟩ := hne
        rw [h0] at hi
        cases hi
      · have hdr := deps_ready hi
        obtain ⟨hun, o, ho, _⟩ := mem_ready.1 hi
        have hz : i < listed.size := by rw [I.lsz]; exact (Array.getElem?_eq_some_iff.1 ho).1
        have hun' : listed.getD i false = false := by simpa [Array.getD, hz] using hun
        have hiT : i < T := by
          rcases Nat.lt_or_ge i T with h' | h'
          · exact h'
          · exfalso
            apply hall
            intro j hj
            unfold waitB at hw
            rw [List.all_eq_true] at hw
            have h1 := hw i (List.mem_range.2 (Array.getElem?_eq_some_iff.1 ho).1)
            rw [decide_eq_false (by omega), Bool.false_or, List.all_eq_true] at h1
            have h2 := h1 j (List.mem_range.2 hj)
            rw [List.contains_iff_mem] at h2
            exact clo_listed I.clo 6 _ hdr j h2
        obtain ⟨o', ho', hdst, hdep⟩ := free_parts hf hiT
        rw [ho] at ho'
        cases ho'
        have mine : ∀ d', (ops[i]?).bind (·.dst) = some d' → o.dst = some d' := fun d' hd' => by rw [ho] at hd'; exact hd'
        refine wpOp_step ho (fun K hK => ?_)
        refine step i hiT o ho a w I.r I.fr (fun j hj d' hd' => I.v j d' (by have := hdep j hj; omega) (hdr j hj) hd') K (fun v w' hR hC hN hv => hK _ _ (ih _ _ _ ?_ ?_))
        · have same : ∀ d', (ops[i]?).bind (·.dst) = some d' → (a.put o.dst v).tmps.getD d' undef = v := fun d' hd' => by
            have h1 := mine d' hd'
            rw [h1]
            exact put_same a (by rw [I.asz]; exact (hdst d' h1).1) v
          have other : ∀ j d', j < T → i ≠ j → (ops[j]?).bind (·.dst) = some d' → (a.put o.dst v).tmps.getD d' undef = a.tmps.getD d' undef := fun j d' hj hji hd' =>
            put_other a (fun e => free_apart hf hiT hj hji (by rw [ho]; exact e) hd') v
          refine ⟨by simp [I.lsz], fun j hj => ?_, fun k hk j hj => ?_, (put_defers _ _ _).trans I.df, (put_size _ _ _).trans I.asz, fun k hk => ?_, hR, fun j d' hj hl' hd' => ?_, fun j k d1 d2 hj hk hjk hl1 hl2 h1 h2 => ?_⟩
          · rw [getD_set_ne false (by omega)]; exact I.hi j hj
          · by_cases hki : i = k
            · subst hki
              by_cases hji : i = j
              · subst hji; exact getD_same hz _
              · rw [getD_set_ne false hji]; exact hdr j hj
            · rw [getD_set_ne false hki] at hk
              by_cases hji : i = j
              · subst hji; exact getD_same hz _
              · rw [getD_set_ne false hji]; exact I.clo k hk j hj
          · rw [put_other a (fun e => hk i hiT (by rw [ho]; exact e)) v]
            exact I.fr k hk
          · by_cases hji : i = j
            · subst hji
              rw [same _ hd']
              exact hv
            · rw [getD_set_ne false hji] at hl'
              rw [other j d' hj hji hd']
              exact hV j _ w w' (I.v j d' hj hl' hd') hC
          · by_cases hji : i = j
            · subst hji
              rw [getD_set_ne false hjk] at hl2
              rw [same _ h1, other k d2 hk hjk h2]
              exact (hD i k v _ w hjk hN (I.v k d2 hk hl2 h2)).1
            · rw [getD_set_ne false hji] at hl1
              by_cases hki : i = k
              · subst hki
                rw [same _ h2, other j d1 hj hji h1]
                exact (hD i j v _ w hji hN (I.v j d1 hj hl1 h1)).2
              · rw [getD_set_ne false hki] at hl2
                rw [other j d1 hj hji h1, other k d2 hk hki h2]
                exact I.d j k d1 d2 hj hk hjk hl1 hl2 h1 h2
        · have := remL_set hz hun' T hiT
          omega
/-- no one of the first T writes a slot -/
def notDst (ops : Array Oper) (T k : Nat) : Bool := (List.range T).all fun i => (ops[i]?).bind (·.dst) != some k
theorem notDst_spec {k : Nat} (h : notDst ops T k = true) : ∀ i, i < T → (ops[i]?).bind (·.dst) ≠ some k := fun i hi => by
  unfold notDst at h
  rw [List.all_eq_true] at h
  simpa using h i (List.mem_range.2 hi)
theorem dep_spec {i j : Nat} (h : (depsOf md ops i).contains j = true) : j ∈ depsOf md ops i := List.contains_iff_mem.1 h
theorem getD_bool {a : Array Value} {k : Nat} {b : Bool} (h : a.getD k undef = .bool b) : a[k]? = some (.bool b) := by
  rw [Array.getD_eq_getD_getElem?] at h
  cases hk : a[k]? with
  | none => rw [hk] at h; cases h
  | some v => rw [hk] at h; exact congrArg some h
/-- THE LAW -/
theorem wp_region_free {id : Nat} {a0 : Act} {w : World} (hm : P.follows .mixedOrders = true) (T : Nat) (R : World → Prop) (C : World → World → Prop) (V : Nat → Value → World → Prop) (N : Nat → World → Value → Prop) (D : Nat → Nat → Value → Value → Prop)
    (hD : ∀ i j v u w, i ≠ j → N i w v → V j u w → D i j v u ∧ D j i u v) (hV : ∀ i v w w', V i v w → C w w' → V i v w') (hf : freeB .any ops T a0.tmps.size = true) (hw : waitB .any ops T = true) (hT : decide (T ≤ ops.size) = true) (hR : R w.drew)
    (step : ∀ i, i < T → FreeS P .any ops T Q R C V N a0 i)
    (last : ∀ a w, a.defers = a0.defers → a.tmps.size = a0.tmps.size → (∀ k, (∀ i, i < T → (ops[i]?).bind (·.dst) ≠ some k) → a.tmps.getD k undef = a0.tmps.getD k undef) →
      R w → (∀ i d, i < T → (ops[i]?).bind (·.dst) = some d → V i (a.tmps.getD d undef) w) → (∀ i j d d', i < T → j < T → i ≠ j → (ops[i]?).bind (·.dst) = some d → (ops[j]?).bind (·.dst) = some d' → D i j (a.tmps.getD d undef) (a.tmps.getD d' undef)) → wpAny P .any ops Q (ops.size - T) (firstL ops T) a w) :
    (Code.region id ops true).wp P Q a0 w := by
  have hT' := of_decide_eq_true hT
  have hrep : ∀ i, (Array.replicate ops.size false).getD i false = false := fun i => by
    by_cases h : i < ops.size <;> simp [Array.getD, h]
  refine wp_region_any hm (wpAny_free hD hV hf hw hT' step last ops.size _ a0 w.drew ⟨by simp, fun j _ => hrep j, fun i hi => ?_, rfl, rfl, fun _ _ => rfl, hR, fun i d _ hi => ?_, fun i j d d' _ _ _ hi => ?_⟩ ?_)
  · rw [hrep i] at hi; cases hi
  · rw [hrep i] at hi; cases hi
  · rw [hrep i] at hi; cases hi
  · have := remL_le (Array.replicate ops.size false) T
    omega
/-- what an operation gives: something that lasts while memory only grows -/
structure Kp where
  R : Value → World → Prop
  st : ∀ v w w', R v w → Below w.heap.size w w' → R v w'
def Kp.fix (u : Value) : Kp := ⟨fun v _ => v = u, fun _ _ _ h _ => h⟩
/-- a box of the call's own -/
def Kp.box (base T : Nat) (cells : List Value) : Kp := ⟨fun v w => ∃ g, v = .pointer (some ⟨g, 0, none⟩) ∧ base ≤ g ∧ RowAt w g T cells, fun v w w' h hb => by
  obtain ⟨g, h1, h2, h3⟩ := h
  exact ⟨g, h1, h2, h3.below hb⟩⟩
/-- a new slice of cells -/
def Kp.row (base T n : Nat) (cells : List Value) : Kp := ⟨fun v w => ∃ g, v = .slice (some ⟨g, 0, none⟩) n n ∧ base ≤ g ∧ RowAt w g T cells, fun v w w' h hb => by
  obtain ⟨g, h1, h2, h3⟩ := h
  exact ⟨g, h1, h2, h3.below hb⟩⟩
def kpAt (ks : List Kp) (i : Nat) : Kp := ks.getD i (Kp.fix undef)
/-- THE LAW, where memory only grows ahead of the operations from T on -/
theorem wp_region_kp {id : Nat} {a0 : Act} {w : World} (hm : P.follows .mixedOrders = true) (T : Nat) (ks : List Kp)
    (hf : freeB .any ops T a0.tmps.size = true) (hw : waitB .any ops T = true) (hT : decide (T ≤ ops.size) = true)
    (step : ∀ i, i < T → ∀ o, ops[i]? = some o → ∀ a w', Below w.heap.size w w' → (∀ k, (∀ i, i < T → (ops[i]?).bind (·.dst) ≠ some k) → a.tmps.getD k undef = a0.tmps.getD k undef) →
      (∀ j ∈ depsOf .any ops i, ∀ d, (ops[j]?).bind (·.dst) = some d → (kpAt ks j).R (a.tmps.getD d undef) w') → ∀ K : Act → World → Prop, (∀ v w2, Below w'.heap.size w' w2 → (kpAt ks i).R v w2 → K (a.put o.dst v) w2) → if Region.wanted o (yielded ops a.tmps) = true then Oper.wp P o a w' K Q else K (a.put o.dst undef) w')
    (last : ∀ a w', a.defers = a0.defers → a.tmps.size = a0.tmps.size → (∀ k, (∀ i, i < T → (ops[i]?).bind (·.dst) ≠ some k) → a.tmps.getD k undef = a0.tmps.getD k undef) →
      Below w.heap.size w w' → (∀ i d, i < T → (ops[i]?).bind (·.dst) = some d → (kpAt ks i).R (a.tmps.getD d undef) w') → wpAny P .any ops Q (ops.size - T) (firstL ops T) a w') :
    (Code.region id ops true).wp P Q a0 w := by
  refine wp_region_free hm T (fun w' => Below w.heap.size w w') (fun w w' => Below w.heap.size w w') (fun i v w' => (kpAt ks i).R v w') (fun _ _ _ => True) (fun _ _ _ _ => True) (fun _ _ _ _ _ _ _ _ => ⟨trivial, trivial⟩) (fun i v w1 w2 h hb => (kpAt ks i).st v w1 w2 h hb) hf hw hT (Below.refl _ _).drew ?_ ?_
  · intro i hi o ho a w' hR hF hD K hK
    exact step i hi o ho a w' hR hF hD K (fun v w2 hb hv => hK _ _ (hR.trans (hb.mono hR.size)) hb trivial hv)
  · intro a w' h1 h2 h3 hR h4 _
    exact last a w' h1 h2 h3 hR h4
/-- what an operation gives: a value, or a new slice -/
inductive RK where
  | fix (u : Value)
  | mk (T n : Nat) (cells : List Value)
def rkV (base : Nat) (k : RK) (v : Value) (w : World) : Prop :=
  match k with
  | .fix u => v = u
  | .mk T n cells => ∃ g, v = .slice (some ⟨g, 0, none⟩) n n ∧ base ≤ g ∧ RowAt w g T cells
theorem rkV_keep (base : Nat) (k : RK) (v : Value) (w w' : World) (h : rkV base k v w) (hb : Below w.heap.size w w') : rkV base k v w' := by
  cases k with
  | fix u => exact h
  | mk T n cells =>
    obtain ⟨g, h1, h2, h3⟩ := h
    exact ⟨g, h1, h2, h3.below hb⟩
/-- THE LAW, where the first T operations read, or make slices -/
theorem wp_region_made {id : Nat} {a0 : Act} {w : World} (hm : P.follows .mixedOrders = true) (T : Nat) (ks : List RK)
    (hf : freeB .any ops T a0.tmps.size = true) (hw : waitB .any ops T = true) (hT : decide (T ≤ ops.size) = true)
    (step : ∀ i, i < T → ∀ o, ops[i]? = some o → ∀ a w', Below w.heap.size w w' → (∀ k, (∀ i, i < T → (ops[i]?).bind (·.dst) ≠ some k) → a.tmps.getD k undef = a0.tmps.getD k undef) →
      (∀ j ∈ depsOf .any ops i, ∀ d, (ops[j]?).bind (·.dst) = some d → rkV w.heap.size (ks.getD j (.fix undef)) (a.tmps.getD d undef) w') → ∀ K : Act → World → Prop, (∀ v w2, Below w'.heap.size w' w2 → rkV w.heap.size (ks.getD i (.fix undef)) v w2 → K (a.put o.dst v) w2) → if Region.wanted o (yielded ops a.tmps) = true then Oper.wp P o a w' K Q else K (a.put o.dst undef) w')
    (last : ∀ a w', a.defers = a0.defers → a.tmps.size = a0.tmps.size → (∀ k, (∀ i, i < T → (ops[i]?).bind (·.dst) ≠ some k) → a.tmps.getD k undef = a0.tmps.getD k undef) →
      Below w.heap.size w w' → (∀ i d, i < T → (ops[i]?).bind (·.dst) = some d → rkV w.heap.size (ks.getD i (.fix undef)) (a.tmps.getD d undef) w') → wpAny P .any ops Q (ops.size - T) (firstL ops T) a w') :
    (Code.region id ops true).wp P Q a0 w := by
  refine wp_region_free hm T (fun w' => Below w.heap.size w w') (fun w w' => Below w.heap.size w w') (fun i v w' => rkV w.heap.size (ks.getD i (.fix undef)) v w') (fun _ _ _ => True) (fun _ _ _ _ => True) (fun _ _ _ _ _ _ _ _ => ⟨trivial, trivial⟩) (fun i v w1 w2 h hb => rkV_keep _ _ v w1 w2 h hb) hf hw hT (Below.refl _ _).drew ?_ ?_
  · intro i hi o ho a w' hR hF hD K hK
    exact step i hi o ho a w' hR hF hD K (fun v w2 hb hv => hK _ _ (hR.trans (hb.mono hR.size)) hb trivial hv)
  · intro a w' h1 h2 h3 hR h4 _
    exact last a w' h1 h2 h3 hR h4
end
end Go.Proofs.YtjacphcnanopjaaDoor
