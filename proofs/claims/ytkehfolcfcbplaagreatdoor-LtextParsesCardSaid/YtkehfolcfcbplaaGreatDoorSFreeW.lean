/- A region that draws its order, of a long chain of operations: as lib/XFree, the waiting looked for farther. No conditions. -/
import Derived.Test.YtkehfolcfcbplaaGreatDoorSFree
namespace Go.Proofs.YtkehfolcfcbplaaGreatDoor
open Go.RowKit
section
variable {P : Program} {ops : Array Oper} {Q : Exit → Act → World → Prop} {md : Region.Mode} {T : Nat}
def waitBW (md : Region.Mode) (ops : Array Oper) (T : Nat) : Bool :=
 (List.range ops.size).all fun j => decide (j < T) || (List.range T).all fun i => (cloL md ops 40 (depsOf md ops j)).contains i
theorem wpAny_freeW {R : World → Prop} {C : World → World → Prop} {V : Nat → Value → World → Prop} {N : Nat → World → Value → Prop} {D : Nat → Nat → Value → Value → Prop} {a0 : Act}
  (hD : ∀ i j v u w, i ≠ j → N i w v → V j u w → D i j v u ∧ D j i u v)
  (hV : ∀ i v w w', V i v w → C w w' → V i v w')
  (hf : freeB md ops T a0.tmps.size = true) (hw : waitBW md ops T = true) (hT : T ≤ ops.size)
  (step : ∀ i, i < T → FreeS P md ops T Q R C V N a0 i)
  (last : ∀ a w, a.defers = a0.defers → a.tmps.size = a0.tmps.size → (∀ k, (∀ i, i < T → (ops[i]?).bind (·.dst) ≠ some k) → a.tmps.getD k undef = a0.tmps.getD k undef) →
   R w → (∀ i d, i < T → (ops[i]?).bind (·.dst) = some d → V i (a.tmps.getD d undef) w) → (∀ i j d d', i < T → j < T → i ≠ j → (ops[i]?).bind (·.dst) = some d → (ops[j]?).bind (·.dst) = some d' → D i j (a.tmps.getD d undef) (a.tmps.getD d' undef)) → wpAny P md ops Q (ops.size - T) (firstL ops T) a w) :
  ∀ (fuel : Nat) (listed : Array Bool) (a : Act) (w : World), FreeI P md ops T R V D a0 listed a w → remL listed T + (ops.size - T) ≤ fuel → wpAny P md ops Q fuel listed a w := by
 intro fuel
 induction fuel with
 | zero =>
  intro listed a w I hl
  have hall : ∀ i, i < T → listed.getD i false = true := by
   have : ∀ n, remL listed n = 0 → ∀ i, i < n → listed.getD i false = true := by
    intro n
    induction n with
    | zero => intro _ i hi; omega
    | succ n ih =>
     intro h i hi
     rw [remL] at h
     by_cases he : i = n
     ·subst he
      by_cases hb : listed.getD i false = true
      ·exact hb
      ·rw [if_neg hb] at h; omega
     ·exact ih (by omega) i (by omega)
   exact this T (by omega)
  have hle : listed = firstL ops T := by
   apply Array.ext
   ·rw [I.lsz]; simp [firstL]
   ·intro i h1 h2
    have e : listed.getD i false = listed[i] := by simp [Array.getD, h1]
    rw [← e]
    have hi : i < ops.size := by rw [← I.lsz]; exact h1
    rw [hall i (by omega)]
    simp [firstL]
    omega
  rw [hle]
  exact wpAny_le (by omega) (last a w I.df I.asz I.fr I.r (fun i d hi hd => I.v i d hi (hall i hi) hd) (fun i j d d' hi hj hij h1 h2 => I.d i j d d' hi hj hij (hall i hi) (hall j hj) h1 h2))
 | succ fuel ih =>
  intro listed a w I hl
  by_cases hall : ∀ i, i < T → listed.getD i false = true
  ·have hle : listed = firstL ops T := by
    apply Array.ext
    ·rw [I.lsz]; simp [firstL]
    ·intro i h1 h2
     have e : listed.getD i false = listed[i] := by simp [Array.getD, h1]
     rw [← e]
     have hi : i < ops.size := by rw [← I.lsz]; exact h1
     by_cases hiT : i < T
     ·rw [hall i hiT]; simp [firstL, hiT]
     ·rw [I.hi i (by omega)]; simp [firstL, hiT]
   rw [hle]
   exact wpAny_le (by omega) (last a w I.df I.asz I.fr I.r (fun i d hi hd => I.v i d hi (hall i hi) hd) (fun i j d d' hi hj hij h1 h2 => I.d i j d d' hi hj hij (hall i hi) (hall j hj) h1 h2))
  ·have hne : ∃ i, i < T ∧ i ∈ Region.ready md ops listed := by
    have : ∀ n i, i < n → i < T → listed.getD i false = false → ∃ i, i < T ∧ i ∈ Region.ready md ops listed := by
     intro n
     induction n with
     | zero => intro i h; omega
     | succ n ihn =>
      intro i hin hiT hf0
      obtain ⟨o, ho, _, hdep⟩ := free_parts hf hiT
      by_cases hd : ∀ j ∈ depsOf md ops i, listed.getD j false = true
      ·refine ⟨i, hiT, mem_ready.2 ⟨?_, o, ho, fun e he hb => hd e.on ?_⟩⟩
       ·have hz : i < listed.size := by rw [I.lsz]; omega
        simpa [Array.getD, hz] using hf0
       ·unfold depsOf
        rw [ho]
        simp only [List.mem_map, List.mem_filter]
        exact ⟨e, ⟨by simpa using he, hb⟩, rfl⟩
      ·obtain ⟨j, hj⟩ := Classical.not_forall.1 hd
       obtain ⟨hj1, hj2⟩ := Classical.not_imp.1 hj
       have := hdep j hj1
       exact ihn j (by omega) (by omega) (by simpa using hj2)
    obtain ⟨i, hi⟩ := Classical.not_forall.1 hall
    obtain ⟨hi1, hi2⟩ := Classical.not_imp.1 hi
    exact this (i + 1) i (by omega) hi1 (by simpa using hi2)
   refine ⟨fun h0 => ?_, fun i hi => ?_⟩
   ·obtain ⟨i, _, hi⟩ := hne
    rw [h0] at hi
    cases hi
   ·have hdr := deps_ready hi
    obtain ⟨hun, o, ho, _⟩ := mem_ready.1 hi
    have hz : i < listed.size := by rw [I.lsz]; exact (Array.getElem?_eq_some_iff.1 ho).1
    have hun' : listed.getD i false = false := by simpa [Array.getD, hz] using hun
    have hiT : i < T := by
     rcases Nat.lt_or_ge i T with h' | h'
     ·exact h'
     ·exfalso
      apply hall
      intro j hj
      unfold waitBW at hw
      rw [List.all_eq_true] at hw
      have h1 := hw i (List.mem_range.2 (Array.getElem?_eq_some_iff.1 ho).1)
      rw [decide_eq_false (by omega), Bool.false_or, List.all_eq_true] at h1
      have h2 := h1 j (List.mem_range.2 hj)
      rw [List.contains_iff_mem] at h2
      exact clo_listed I.clo 40 _ hdr j h2
    obtain ⟨o', ho', hdst, hdep⟩ := free_parts hf hiT
    rw [ho] at ho'
    cases ho'
    have mine : ∀ d', (ops[i]?).bind (·.dst) = some d' → o.dst = some d' := fun d' hd' => by rw [ho] at hd'; exact hd'
    refine wpOp_step ho (fun K hK => ?_)
    refine step i hiT o ho a w I.r I.fr (fun j hj d' hd' => I.v j d' (by have := hdep j hj; omega) (hdr j hj) hd') K (fun v w' hR hC hN hv => hK _ _ (ih _ _ _ ?_ ?_))
    ·have same : ∀ d', (ops[i]?).bind (·.dst) = some d' → (a.put o.dst v).tmps.getD d' undef = v := fun d' hd' => by
      have h1 := mine d' hd'
      rw [h1]
      exact put_same a (by rw [I.asz]; exact (hdst d' h1).1) v
     have other : ∀ j d', j < T → i ≠ j → (ops[j]?).bind (·.dst) = some d' → (a.put o.dst v).tmps.getD d' undef = a.tmps.getD d' undef := fun j d' hj hji hd' =>
      put_other a (fun e => free_apart hf hiT hj hji (by rw [ho]; exact e) hd') v
     refine ⟨by simp [I.lsz], fun j hj => ?_, fun k hk j hj => ?_, (put_defers _ _ _).trans I.df, (put_size _ _ _).trans I.asz, fun k hk => ?_, hR, fun j d' hj hl' hd' => ?_, fun j k d1 d2 hj hk hjk hl1 hl2 h1 h2 => ?_⟩
     ·rw [getD_set_ne false (by omega)]; exact I.hi j hj
     ·by_cases hki : i = k
      ·subst hki
       by_cases hji : i = j
       ·subst hji; exact getD_same hz _
       ·rw [getD_set_ne false hji]; exact hdr j hj
      ·rw [getD_set_ne false hki] at hk
       by_cases hji : i = j
       ·subst hji; exact getD_same hz _
       ·rw [getD_set_ne false hji]; exact I.clo k hk j hj
     ·rw [put_other a (fun e => hk i hiT (by rw [ho]; exact e)) v]
      exact I.fr k hk
     ·by_cases hji : i = j
      ·subst hji
       rw [same _ hd']
       exact hv
      ·rw [getD_set_ne false hji] at hl'
       rw [other j d' hj hji hd']
       exact hV j _ w w' (I.v j d' hj hl' hd') hC
     ·by_cases hji : i = j
      ·subst hji
       rw [getD_set_ne false hjk] at hl2
       rw [same _ h1, other k d2 hk hjk h2]
       exact (hD i k v _ w hjk hN (I.v k d2 hk hl2 h2)).1
      ·rw [getD_set_ne false hji] at hl1
       by_cases hki : i = k
       ·subst hki
        rw [same _ h2, other j d1 hj hji h1]
        exact (hD i j v _ w hji hN (I.v j d1 hj hl1 h1)).2
       ·rw [getD_set_ne false hki] at hl2
        rw [other j d1 hj hji h1, other k d2 hk hki h2]
        exact I.d j k d1 d2 hj hk hjk hl1 hl2 h1 h2
    ·have := remL_set hz hun' T hiT
     omega
theorem wp_region_freeW {id : Nat} {a0 : Act} {w : World} (hm : P.follows .mixedOrders = true) (T : Nat) (R : World → Prop) (C : World → World → Prop) (V : Nat → Value → World → Prop) (N : Nat → World → Value → Prop) (D : Nat → Nat → Value → Value → Prop)
  (hD : ∀ i j v u w, i ≠ j → N i w v → V j u w → D i j v u ∧ D j i u v) (hV : ∀ i v w w', V i v w → C w w' → V i v w') (hf : freeB .any ops T a0.tmps.size = true) (hw : waitBW .any ops T = true) (hT : decide (T ≤ ops.size) = true) (hR : R w.drew)
  (step : ∀ i, i < T → FreeS P .any ops T Q R C V N a0 i)
  (last : ∀ a w, a.defers = a0.defers → a.tmps.size = a0.tmps.size → (∀ k, (∀ i, i < T → (ops[i]?).bind (·.dst) ≠ some k) → a.tmps.getD k undef = a0.tmps.getD k undef) →
   R w → (∀ i d, i < T → (ops[i]?).bind (·.dst) = some d → V i (a.tmps.getD d undef) w) → (∀ i j d d', i < T → j < T → i ≠ j → (ops[i]?).bind (·.dst) = some d → (ops[j]?).bind (·.dst) = some d' → D i j (a.tmps.getD d undef) (a.tmps.getD d' undef)) → wpAny P .any ops Q (ops.size - T) (firstL ops T) a w) :
  (Code.region id ops true).wp P Q a0 w := by
 have hT' := of_decide_eq_true hT
 have hrep : ∀ i, (Array.replicate ops.size false).getD i false = false := fun i => by
  by_cases h : i < ops.size <;> simp [Array.getD, h]
 refine wp_region_any hm (wpAny_freeW hD hV hf hw hT' step last ops.size _ a0 w.drew ⟨by simp, fun j _ => hrep j, fun i hi => ?_, rfl, rfl, fun _ _ => rfl, hR, fun i d _ hi => ?_, fun i j d d' _ _ _ hi => ?_⟩ ?_)
 ·rw [hrep i] at hi; cases hi
 ·rw [hrep i] at hi; cases hi
 ·rw [hrep i] at hi; cases hi
 ·have := remL_le (Array.replicate ops.size false) T
  omega
theorem wp_region_kpW {id : Nat} {a0 : Act} {w : World} (hm : P.follows .mixedOrders = true) (T : Nat) (ks : List Kp)
  (hf : freeB .any ops T a0.tmps.size = true) (hw : waitBW .any ops T = true) (hT : decide (T ≤ ops.size) = true)
  (step : ∀ i, i < T → ∀ o, ops[i]? = some o → ∀ a w', Below w.heap.size w w' → (∀ k, (∀ i, i < T → (ops[i]?).bind (·.dst) ≠ some k) → a.tmps.getD k undef = a0.tmps.getD k undef) →
   (∀ j ∈ depsOf .any ops i, ∀ d, (ops[j]?).bind (·.dst) = some d → (kpAt ks j).R (a.tmps.getD d undef) w') → ∀ K : Act → World → Prop, (∀ v w2, Below w'.heap.size w' w2 → (kpAt ks i).R v w2 → K (a.put o.dst v) w2) → if Region.wanted o (yielded ops a.tmps) = true then Oper.wp P o a w' K Q else K (a.put o.dst undef) w')
  (last : ∀ a w', a.defers = a0.defers → a.tmps.size = a0.tmps.size → (∀ k, (∀ i, i < T → (ops[i]?).bind (·.dst) ≠ some k) → a.tmps.getD k undef = a0.tmps.getD k undef) →
   Below w.heap.size w w' → (∀ i d, i < T → (ops[i]?).bind (·.dst) = some d → (kpAt ks i).R (a.tmps.getD d undef) w') → wpAny P .any ops Q (ops.size - T) (firstL ops T) a w') :
  (Code.region id ops true).wp P Q a0 w := by
 refine wp_region_freeW hm T (fun w' => Below w.heap.size w w') (fun w w' => Below w.heap.size w w') (fun i v w' => (kpAt ks i).R v w') (fun _ _ _ => True) (fun _ _ _ _ => True) (fun _ _ _ _ _ _ _ _ => ⟨trivial, trivial⟩) (fun i v w1 w2 h hb => (kpAt ks i).st v w1 w2 h hb) hf hw hT (Below.refl _ _).drew ?_ ?_
 ·intro i hi o ho a w' hR hF hD K hK
  exact step i hi o ho a w' hR hF hD K (fun v w2 hb hv => hK _ _ (hR.trans (hb.mono hR.size)) hb trivial hv)
 ·intro a w' h1 h2 h3 hR h4 _
  exact last a w' h1 h2 h3 hR h4
end
end Go.Proofs.YtkehfolcfcbplaaGreatDoor
