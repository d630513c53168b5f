/- A region that draws its order, some of whose operations hang on one another's memory: what is known is told of what has come. No conditions. -/
import Derived.Test.YtjacphcnanopjaaDoorFree
namespace Go.Proofs.YtjacphcnanopjaaDoor
open Go.RowKit
section
variable {P : Program} {ops : Array Oper} {Q : Exit → Act → World → Prop} {md : Region.Mode} {T : Nat}

/-- what holds of the list alone -/
structure ListI (md : Region.Mode) (ops : Array Oper) (T : Nat) (listed : Array Bool) : Prop where
  lsz : listed.size = ops.size
  hi : ∀ j, T ≤ j → listed.getD j false = false
  clo : ∀ i, listed.getD i false = true → ∀ j ∈ depsOf md ops i, listed.getD j false = true
theorem first_eq {listed : Array Bool} (I : ListI md ops T listed) (hT : T ≤ ops.size) (hall : ∀ i, i < T → listed.getD i false = true) : listed = firstL ops T := by
  apply Array.ext
  · rw [I.lsz]; simp [firstL]
  · intro i h1 h2
    have e : listed.getD i false = listed[i] := by simp [Array.getD, h1]
    rw [← e]
    by_cases hiT : i < T
    · rw [hall i hiT]; simp [firstL, hiT]
    · rw [I.hi i (by omega)]; simp [firstL, hiT]
theorem rem_all {listed : Array Bool} : ∀ n, remL listed n = 0 → ∀ i, i < n → listed.getD i false = true
  | 0, _, i, hi => by omega
  | n + 1, h, i, hi => by
    rw [remL] at h
    by_cases he : i = n
    · subst he
      by_cases hb : listed.getD i false = true
      · exact hb
      · rw [if_neg hb] at h; omega
    · exact rem_all n (by omega) i (by omega)
theorem wpAny_gen {J : Array Bool → Act → World → Prop} {sz : Nat} (hf : freeB md ops T sz = true) (hw : waitB md ops T = true) (hT : T ≤ ops.size)
    (step : ∀ i, i < T → ∀ o, ops[i]? = some o → ∀ listed a w, ListI md ops T listed → J listed a w → listed.getD i false = false → (∀ j ∈ depsOf md ops i, listed.getD j false = true) →
      ∀ K : Act → World → Prop, (∀ v w', J (listed.setIfInBounds i true) (a.put o.dst v) w' → K (a.put o.dst v) w') → if Region.wanted o (yielded ops a.tmps) = true then Oper.wp P o a w K Q else K (a.put o.dst undef) w)
    (last : ∀ listed a w, (∀ i, i < T → listed.getD i false = true) → J listed a w → wpAny P md ops Q (ops.size - T) (firstL ops T) a w) :
    ∀ (fuel : Nat) (listed : Array Bool) (a : Act) (w : World), ListI md ops T listed → J listed a w → remL listed T + (ops.size - T) ≤ fuel → wpAny P md ops Q fuel listed a w := by
  intro fuel
  induction fuel with
  | zero =>
    intro listed a w I hJ hl
    have hall := rem_all (listed := listed) T (by omega)
    rw [first_eq I hT hall]
    exact wpAny_le (by omega) (last listed a w hall hJ)
  | succ fuel ih =>
    intro listed a w I hJ hl
    by_cases hall : ∀ i, i < T → listed.getD i false = true
    · rw [first_eq I hT hall]
      exact wpAny_le (by omega) (last listed a w hall hJ)
    · have hne : ∃ i, i < T ∧ i ∈ Region.ready md ops listed := by
        have : ∀ n i, i < n → i < T → listed.getD i false = false → ∃ i, i < T ∧ i ∈ Region.ready md ops listed := by
          intro n
          induction n with
          | zero => intro i h; omega
          | succ n ihn =>
            intro i hin hiT hf0
            obtain ⟨o, ho, _, hdep⟩ := free_parts hf hiT
            by_cases hd : ∀ j ∈ depsOf md ops i, listed.getD j false = true
            · refine ⟨i, hiT, mem_ready.2 ⟨?_, o, ho, fun e he hb => hd e.on ?_⟩⟩
              · have hz : i < listed.size := by rw [I.lsz]; omega
                simpa [Array.getD, hz] using hf0
              · unfold depsOf
                rw [ho]
                simp only [List.mem_map, List.mem_filter]
                exact ⟨e, ⟨by simpa using he, hb⟩, rfl⟩
            · obtain ⟨j, hj⟩ := Classical.not_forall.1 hd
              obtain ⟨hj1, hj2⟩ := Classical.not_imp.1 hj
              have := hdep j hj1
              exact ihn j (by omega) (by omega) (by simpa using hj2)
        obtain ⟨i, hi⟩ := Classical.not_forall.1 hall
        obtain ⟨hi1, hi2⟩ := Classical.not_imp.1 hi
        exact this (i + 1) i (by omega) hi1 (by simpa using hi2)
      refine ⟨fun h0 => ?_, fun i hi => ?_⟩
      · obtain ⟨i, _, hi⟩ := hne
        rw [h0] at hi
        cases hi
      · have hdr := deps_ready hi
        obtain ⟨hun, o, ho, _⟩ := mem_ready.1 hi
        have hz : i < listed.size := by rw [I.lsz]; exact (Array.getElem?_eq_some_iff.1 ho).1
        have hun' : listed.getD i false = false := by simpa [Array.getD, hz] using hun
        have hiT : i < T := by
          rcases Nat.lt_or_ge i T with h' | h'
          · exact h'
          · exfalso
            apply hall
            intro j hj
            unfold waitB at hw
            rw [List.all_eq_true] at hw
            have h1 := hw i (List.mem_range.2 (Array.getElem?_eq_some_iff.1 ho).1)
            rw [decide_eq_false (by omega), Bool.false_or, List.all_eq_true] at h1
            have h2 := h1 j (List.mem_range.2 hj)
            rw [List.contains_iff_mem] at h2
            exact clo_listed I.clo 6 _ hdr j h2
        refine wpOp_step ho (fun K hK => ?_)
        refine step i hiT o ho listed a w I hJ hun' hdr K (fun v w' hJ' => hK _ _ (ih _ _ _ ⟨by simp [I.lsz], fun j hj => ?_, fun k hk j hj => ?_⟩ hJ' ?_))
        · rw [getD_set_ne false (by omega)]; exact I.hi j hj
        · by_cases hki : i = k
          · subst hki
            by_cases hji : i = j
            · subst hji; exact getD_same hz _
            · rw [getD_set_ne false hji]; exact hdr j hj
          · rw [getD_set_ne false hki] at hk
            by_cases hji : i = j
            · subst hji; exact getD_same hz _
            · rw [getD_set_ne false hji]; exact I.clo k hk j hj
        · have := remL_set hz hun' T hiT
          omega
/-- a value more -/
def updB (L : Nat → Bool) (i : Nat) : Nat → Bool := fun j => if j = i then true else L j
def updV (r : Nat → Value) (i : Nat) (v : Value) : Nat → Value := fun j => if j = i then v else r j
/-- the value of each operation -/
def valOf (ops : Array Oper) (a : Act) (i : Nat) : Value := match (ops[i]?).bind (·.dst) with
  | some d => a.tmps.getD d undef
  | none => undef
/-- what holds of what has come: values that are fixed, and what hangs on memory -/
structure DynI (ops : Array Oper) (T : Nat) (R : World → Prop) (fx : Nat → Option Value) (Dyn : (Nat → Bool) → (Nat → Value) → World → Prop) (a0 : Act) (listed : Array Bool) (a : Act) (w : World) : Prop where
  df : a.defers = a0.defers
  asz : a.tmps.size = a0.tmps.size
  fr : ∀ k, (∀ i, i < T → (ops[i]?).bind (·.dst) ≠ some k) → a.tmps.getD k undef = a0.tmps.getD k undef
  r : R w
  fxv : ∀ i u, i < T → listed.getD i false = true → fx i = some u → valOf ops a i = u
  dyn : ∃ rho : Nat → Value, (∀ i, i < T → listed.getD i false = true → valOf ops a i = rho i) ∧ Dyn (fun i => listed.getD i false) rho w
theorem wp_region_dyn {id : Nat} {a0 : Act} {w : World} (hm : P.follows .mixedOrders = true) (T : Nat) (R : World → Prop) (fx : Nat → Option Value) (dy : Nat → Bool) (Dyn : (Nat → Bool) → (Nat → Value) → World → Prop)
    (hf : freeB .any ops T a0.tmps.size = true) (hw : waitB .any ops T = true) (hT : decide (T ≤ ops.size) = true) (hR : R w.drew) (hD0 : ∀ rho, Dyn (fun _ => false) rho w.drew)
    (stepF : ∀ i, i < T → dy i = false → ∃ u, fx i = some u ∧ (∀ L rho w, Dyn L rho w → Dyn (updB L i) (updV rho i u) w) ∧ ∀ o, ops[i]? = some o → ∀ a w, R w → (∀ k, (∀ i, i < T → (ops[i]?).bind (·.dst) ≠ some k) → a.tmps.getD k undef = a0.tmps.getD k undef) → (∀ j ∈ depsOf .any ops i, ∀ u, fx j = some u → valOf ops a j = u) →
      (o.dst = none → u = undef) ∧ ∀ K : Act → World → Prop, K (a.put o.dst u) w → if Region.wanted o (yielded ops a.tmps) = true then Oper.wp P o a w K Q else K (a.put o.dst undef) w)
    (stepD : ∀ i, i < T → dy i = true → ∀ o, ops[i]? = some o → ∀ a w L rho, R w → Dyn L rho w → L i = false → (∀ j, L j = true → ∀ k ∈ depsOf .any ops j, L k = true) → (∀ j ∈ depsOf .any ops i, L j = true ∧ valOf ops a j = rho j) → (∀ j ∈ depsOf .any ops i, ∀ u, fx j = some u → valOf ops a j = u) → (∀ k, (∀ i, i < T → (ops[i]?).bind (·.dst) ≠ some k) → a.tmps.getD k undef = a0.tmps.getD k undef) →
      ∀ K : Act → World → Prop, (∀ v w', R w' → (o.dst = none → v = undef) → (∀ u, fx i = some u → v = u) → Dyn (updB L i) (updV rho i v) w' → K (a.put o.dst v) w') → if Region.wanted o (yielded ops a.tmps) = true then Oper.wp P o a w K Q else K (a.put o.dst undef) w)
    (last : ∀ a w rho, a.defers = a0.defers → a.tmps.size = a0.tmps.size → (∀ k, (∀ i, i < T → (ops[i]?).bind (·.dst) ≠ some k) → a.tmps.getD k undef = a0.tmps.getD k undef) → R w → (∀ i u, i < T → fx i = some u → valOf ops a i = u) → (∀ i, i < T → valOf ops a i = rho i) → (∀ L, (∀ i, i < T → L i = true) → (∀ i, T ≤ i → L i = false) → Dyn L rho w) → wpAny P .any ops Q (ops.size - T) (firstL ops T) a w) :
    (Code.region id ops true).wp P Q a0 w := by
  have hT' := of_decide_eq_true hT
  have hrep : ∀ i, (Array.replicate ops.size false).getD i false = false := fun i => by
    by_cases h : i < ops.size <;> simp [Array.getD, h]
  have no : ∀ {i : Nat} {C : Prop}, (Array.replicate ops.size false).getD i false = true → C := fun {i C} hi => by
    rw [hrep i] at hi
    cases hi
  have L0 : ListI .any ops T (Array.replicate ops.size false) := ⟨by simp, fun j _ => hrep j, fun i hi => no hi⟩
  have e0 : (fun i => (Array.replicate ops.size false).getD i false) = fun _ => false := funext hrep
  have D0 : DynI ops T R fx Dyn a0 (Array.replicate ops.size false) a0 w.drew := ⟨rfl, rfl, fun _ _ => rfl, hR, fun i u _ hi => no hi, ⟨fun _ => undef, fun i _ hi => no hi, by rw [e0]; exact hD0 _⟩⟩
  refine wp_region_any hm (wpAny_gen (J := fun listed a w => ListI .any ops T listed ∧ DynI ops T R fx Dyn a0 listed a w) hf hw hT' ?_ ?_ ops.size _ a0 w.drew L0 ⟨L0, D0⟩ ?_)
  · intro i hiT o ho listed a w' I ⟨_, D⟩ hun hdr K hK
    have hz : i < listed.size := by rw [I.lsz]; omega
    obtain ⟨o', ho', hdst, hdep⟩ := free_parts hf hiT
    rw [ho] at ho'
    cases ho'
    obtain ⟨rho, hrho, hdyn⟩ := D.dyn
    have same : ∀ v d', o.dst = some d' → valOf ops (a.put o.dst v) i = v := fun v d' hd' => by
      unfold valOf
      rw [ho]
      show (match o.dst with | some d => (a.put o.dst v).tmps.getD d undef | none => undef) = v
      rw [hd']
      exact put_same a (by rw [D.asz]; exact (hdst d' hd').1) v
    have other : ∀ v j, j < T → i ≠ j → valOf ops (a.put o.dst v) j = valOf ops a j := fun v j hj hji => by
      obtain ⟨oj, hoj, _, _⟩ := free_parts hf hj
      unfold valOf
      rw [hoj]
      show (match oj.dst with | some d => (a.put o.dst v).tmps.getD d undef | none => undef) = (match oj.dst with | some d => a.tmps.getD d undef | none => undef)
      cases hdj : oj.dst with
      | none => rfl
      | some dj => exact put_other a (fun e => free_apart hf hiT hj hji (by rw [ho]; exact e) (by rw [hoj]; exact hdj)) v
    have void : ∀ v, o.dst = none → valOf ops (a.put o.dst v) i = undef := fun v hd' => by
      unfold valOf
      rw [ho]
      show (match o.dst with | some d => (a.put o.dst v).tmps.getD d undef | none => undef) = undef
      rw [hd']
    have frame : ∀ v k, (∀ i, i < T → (ops[i]?).bind (·.dst) ≠ some k) → (a.put o.dst v).tmps.getD k undef = a0.tmps.getD k undef := fun v k hk => by
      rw [put_other a (fun e => hk i hiT (by rw [ho]; exact e)) v]
      exact D.fr k hk
    have hupd : (fun j => (listed.setIfInBounds i true).getD j false) = updB (fun j => listed.getD j false) i := by
      funext j
      unfold updB
      by_cases hj : j = i
      · subst hj; rw [if_pos rfl]; exact getD_same hz _
      · rw [if_neg hj]; exact getD_set_ne false (fun e => hj e.symm)
    have LI : ListI .any ops T (listed.setIfInBounds i true) := by
      refine ⟨by simp [I.lsz], fun j hj => ?_, fun k hk j hj => ?_⟩
      · rw [getD_set_ne false (by omega)]; exact I.hi j hj
      · by_cases hki : i = k
        · subst hki
          by_cases hji : i = j
          · subst hji; exact getD_same hz _
          · rw [getD_set_ne false hji]; exact hdr j hj
        · rw [getD_set_ne false hki] at hk
          by_cases hji : i = j
          · subst hji; exact getD_same hz _
          · rw [getD_set_ne false hji]; exact I.clo k hk j hj
    have mk : ∀ v w2, R w2 → (∀ u, fx i = some u → v = u) → (o.dst = none → v = undef) → Dyn (updB (fun j => listed.getD j false) i) (updV rho i v) w2 → DynI ops T R fx Dyn a0 (listed.setIfInBounds i true) (a.put o.dst v) w2 := fun v w2 hR2 hv hnd hd2 => by
      have same' : valOf ops (a.put o.dst v) i = v := by
        cases hd : o.dst with
        | none =>
          have := void v hd
          rw [hd] at this
          rw [this, hnd hd]
        | some d =>
          have := same v d hd
          rw [hd] at this
          exact this
      refine ⟨(put_defers _ _ _).trans D.df, (put_size _ _ _).trans D.asz, frame v, hR2, fun j u hj hl hu => ?_, updV rho i v, fun j hj hl => ?_, by rw [hupd]; exact hd2⟩
      · by_cases hji : i = j
        · subst hji; rw [same']; exact hv u hu
        · rw [other v j hj hji]
          rw [getD_set_ne false hji] at hl
          exact D.fxv j u hj hl hu
      · unfold updV
        by_cases hji : j = i
        · subst hji; rw [if_pos rfl, same']
        · rw [if_neg hji, other v j hj (fun e => hji e.symm)]
          rw [getD_set_ne false (fun e => hji e.symm)] at hl
          exact hrho j hj hl
    have hfx : ∀ j ∈ depsOf .any ops i, ∀ u, fx j = some u → valOf ops a j = u := fun j hj u hu => D.fxv j u (by have := hdep j hj; omega) (hdr j hj) hu
    cases hu : dy i with
    | false =>
      obtain ⟨u, hfu, s1, s2⟩ := stepF i hiT hu
      obtain ⟨s3, s4⟩ := s2 o ho a w' D.r D.fr hfx
      refine s4 K (hK u w' ⟨LI, mk u w' D.r (fun u' hu' => ?_) s3 (s1 _ _ _ hdyn)⟩)
      rw [hfu] at hu'
      exact Option.some.inj hu'
    | true =>
      exact stepD i hiT hu o ho a w' (fun j => listed.getD j false) rho D.r hdyn hun I.clo (fun j hj => ⟨hdr j hj, hrho j (by have := hdep j hj; omega) (hdr j hj)⟩) hfx D.fr K (fun v w2 hR2 hnd hfv hd2 => hK v w2 ⟨LI, mk v w2 hR2 hfv hnd hd2⟩)
  · intro listed a w' hall ⟨I, D⟩
    obtain ⟨rho, hrho, hdyn⟩ := D.dyn
    refine last a w' rho D.df D.asz D.fr D.r (fun i u hi hu => D.fxv i u hi (hall i hi) hu) (fun i hi => hrho i hi (hall i hi)) (fun L h1 h2 => ?_)
    have : L = fun j => listed.getD j false := by
      funext j
      by_cases hj : j < T
      · rw [h1 j hj, hall j hj]
      · rw [h2 j (by omega), I.hi j (by omega)]
    rw [this]
    exact hdyn
  · have := remL_le (Array.replicate ops.size false) T
    omega
end
end Go.Proofs.YtjacphcnanopjaaDoor
