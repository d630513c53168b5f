/- A map of pairs of numbers that a call makes and fills. No conditions but Go's int. -/
import Derived.Test.YtefplklkhcpchaaDegPlain
import Derived.Maps.OwnSet
import Derived.Maps.Views
import Derived.DeepKeys4
namespace Go.Proofs.Ytefplklkhcpchaa
open Go.RowKit Go.WideMaps

theorem laidP : laidOutB Try.prog = true := by kernel_rfl
theorem wideP : (match Try.prog.underlying 49 with | some (.array _ _) | some (.struct _) => true | _ => false) = true := by kernel_rfl
theorem lawP : KeyLaw Try.prog 49 := deep_law_laid laidP (m := 2) (by omega) (of_decide_eq_true (by kernel_rfl)) (by kernel_rfl) wideP
theorem keyedP : Go.Maps.Keyed Try.prog 49 := Go.Maps.Keyed.of_law lawP
/-- a pair as a value -/
abbrev pval (p : PR) : Value := .agg #[.int .i64 p.1, .int .i64 p.2]
def okP (p : PR) : Prop := (Lit.int .i64 p.1).wf = true ∧ (Lit.int .i64 p.2).wf = true
def pkey (p : PR) : Lit := .string (keyBytes [.int .i64 p.1, .int .i64 p.2])
theorem keyOf_pair {p : PR} (h : okP p) : keyOf Try.prog 49 (pval p) = some (pkey p) := by
  obtain ⟨h1, h2⟩ := h
  have hk : Try.prog.keyType 49 = true := by kernel_rfl
  have hc : Try.prog.cellsOf 49 = 2 := by kernel_rfl
  have hi : Try.prog.cellsOf 3 = 1 := by kernel_rfl
  have hs : ∃ d, Try.prog.types.size + 1 = d + 1 + 1 := by
    have h1 : 1 ≤ Try.prog.types.size := of_decide_eq_true (by kernel_rfl)
    exact ⟨Try.prog.types.size - 1, by omega⟩
  obtain ⟨d, hs⟩ := hs
  unfold keyOf
  rw [Try.underlying49]
  simp only [hk, Value.formed, Try.underlying49, hc]
  rw [hs]
  simp [Program.keyLits, Try.underlying49, Try.underlying3, hc, hi, h1, h2, Value.cells, pkey]
theorem pkey_inj {p q : PR} (hp : okP p) (hq : okP q) (h : pkey p = pkey q) : p = q := by
  have h1 := keyOf_pair hp
  rw [h] at h1
  have := keyedP.inj h1 (keyOf_pair hq)
  simp only [pval, Value.agg.injEq, Array.mk.injEq, List.cons.injEq, Value.int.injEq, true_and, and_true] at this
  exact Prod.ext this.1 this.2
theorem pkey_is (p : PR) : WideAt.IsKeyLit (pkey p) := trivial

/-- the map of all pairs to their numbers -/
def PDgo : List PR → Nat → DataW Unit → DataW Unit
  | [], _, D => D
  | p :: l, i, D => PDgo l (i + 1) (D.put (pkey p) (.lit (.int .i64 (i : Int))))
def PD (l : List PR) : DataW Unit := PDgo l 0 (.map [])
theorem PDgo_snoc : ∀ (l : List PR) (i : Nat) (D : DataW Unit) (p : PR), PDgo (l ++ [p]) i D = (PDgo l i D).put (pkey p) (.lit (.int .i64 ((i + l.length : Nat) : Int)))
  | [], i, D, p => by simp [PDgo]
  | q :: l, i, D, p => by
    simp only [List.cons_append, PDgo, PDgo_snoc l, List.length_cons]
    rw [show i + 1 + l.length = i + (l.length + 1) by omega]
theorem PD_snoc (l : List PR) (p : PR) : PD (l ++ [p]) = (PD l).put (pkey p) (.lit (.int .i64 (l.length : Int))) := by
  unfold PD
  rw [PDgo_snoc, Nat.zero_add]
theorem snoc_ind {α : Type} {C : List α → Prop} (h0 : C []) (h1 : ∀ l x, C l → C (l ++ [x])) (l : List α) : C l := by
  have : ∀ n (l : List α), l.length = n → C l := by
    intro n
    induction n with
    | zero => intro l hl; rw [List.eq_nil_of_length_eq_zero hl]; exact h0
    | succ n ih =>
      intro l hl
      have hne : l ≠ [] := by intro e; rw [e] at hl; cases hl
      rw [← List.dropLast_concat_getLast hne]
      exact h1 _ _ (ih _ (by rw [List.length_dropLast]; omega))
  exact this _ l rfl
theorem PD_isMap (l : List PR) : Go.Maps.IsMap (PD l) := by
  induction l using snoc_ind with
  | h0 => exact Go.Maps.isMap_empty
  | h1 l p ih => rw [PD_snoc]; exact ih.put _ _
theorem PD_look (l : List PR) (hl : l.Nodup) (hok : ∀ p ∈ l, okP p) (q : PR) (hq : okP q) :
    Go.Maps.has (PD l) (pkey q) = decide (q ∈ l) ∧ ∀ z, (PD l).atKey (pkey q) z = if q ∈ l then .lit (.int .i64 (l.idxOf q : Int)) else z := by
  induction l using snoc_ind with
  | h0 => exact ⟨rfl, fun z => rfl⟩
  | h1 l p ih =>
    rw [List.nodup_append] at hl
    obtain ⟨hl1, _, hl2⟩ := hl
    have hp : p ∉ l := fun h => hl2 p h p (by simp) rfl
    obtain ⟨i1, i2⟩ := ih hl1 (fun x hx => hok x (by simp [hx]))
    rw [PD_snoc]
    by_cases he : q = p
    · subst he
      rw [Go.Maps.has_put_same (PD_isMap l) (pkey_is _)]
      refine ⟨by simp, fun z => ?_⟩
      rw [Go.Maps.atKey_put_same (PD_isMap l) (pkey_is _), if_pos (by simp), List.idxOf_append, if_neg hp]
      simp
    · have hk : pkey q ≠ pkey p := fun e => he (pkey_inj hq (hok p (by simp)) e)
      rw [Go.Maps.has_put_other hk, i1]
      refine ⟨by simp [he], fun z => ?_⟩
      rw [Go.Maps.atKey_put_other hk, i2]
      by_cases hm : q ∈ l
      · rw [if_pos hm, if_pos (by simp [hm]), List.idxOf_append, if_pos hm]
      · rw [if_neg hm, if_neg (by simp [hm, he])]

/-- a map in memory: all pairs to their numbers -/
structure PMap (w : World) (b : Nat) (l : List PR) : Prop where
  own : w.ownsMap (H := Unit) Try.prog 49 (plainElem Try.prog 3) b l.length (PD l)
  nodup : l.Nodup
  ok : ∀ p ∈ l, okP p
theorem PMap.lt {w : World} {b : Nat} {l : List PR} (h : PMap w b l) : b < w.heap.size := World.ownsMap.lt h.own
theorem PMap.keep {w w' : World} {b : Nat} {l : List PR} (h : PMap w b l) (hk : w'.heap[b]? = w.heap[b]?) : PMap w' b l := by
  obtain ⟨⟨es, cl, hb, r⟩, h2, h3⟩ := h
  exact ⟨⟨es, cl, hk.trans hb, r⟩, h2, h3⟩
theorem PMap.keeps {w w' : World} {b : Nat} {l : List PR} {S : Nat → Prop} (h : PMap w b l) (hk : Keeps w w' S) (hn : ¬ S b) : PMap w' b l := h.keep (hk.block b h.lt hn)
theorem PMap.made (w : World) : PMap (w.alloc (.map #[] 0)) w.heap.size [] := ⟨World.ownsMap_made _ _ _ _, List.nodup_nil, by simp⟩
theorem zeroInt (w : World) : (zeroValue 3).run Try.prog w = .ok (.int .i64 0) w := by kernel_rfl
theorem PMap.look {w : World} {b : Nat} {l : List PR} (h : PMap w b l) {p : PR} (hp : okP p) :
    (Instr.lookup 42 (.map (some b)) (pval p) true).run Try.prog w = .ok (.tuple #[.int .i64 (if p ∈ l then (l.idxOf p : Int) else 0), .bool (decide (p ∈ l))]) w := by
  obtain ⟨h1, h2⟩ := PD_look l h.nodup h.ok p hp
  obtain ⟨v, ps, hrun, hv⟩ := h.own.look_ok keyedP Try.underlying42 (zeroInt w) (zd := .lit (.int .i64 0)) (zp := []) (plainElem_int Try.underlying3 (by decide)) (keyOf_pair hp)
  obtain ⟨c, rfl, hc, _⟩ := plainElem_int_inv Try.underlying3 hv
  simp only [Prod.mk.injEq] at hc
  rw [h2] at hc
  rw [hrun, h1]
  by_cases hm : p ∈ l
  · rw [if_pos hm] at hc ⊢
    simp only [DataW.lit.injEq, Lit.int.injEq, true_and] at hc
    rw [hc.1]
  · rw [if_neg hm] at hc ⊢
    simp only [DataW.lit.injEq, Lit.int.injEq, true_and] at hc
    rw [hc.1]
theorem PMap.put {w : World} {b : Nat} {l : List PR} (h : PMap w b l) {p : PR} (hp : okP p) (hm : p ∉ l) (hl : l.length ≤ 1000000) :
    ∃ w', (Instr.mapUpdate 42 (.map (some b)) (pval p) (.int .i64 (l.length : Int))).run Try.prog w = .ok () w' ∧ PMap w' b (l ++ [p]) ∧ w.grownBy w' (some b) := by
  obtain ⟨w', hrun, ho, hg⟩ := h.own.update keyedP Try.underlying42 (by unfold maxLen; omega) (keyOf_pair hp) (plainElem_int (H := Unit) Try.underlying3 (a := (l.length : Int)) (by simp [Lit.wf, IntKind.min, IntKind.max, IntKind.signed, IntKind.bits]; omega))
  refine ⟨w', hrun, ⟨?_, ?_, ?_⟩, hg⟩
  · rw [PD_snoc, List.length_append]
    exact ho
  · rw [List.nodup_append]
    refine ⟨h.nodup, by simp, fun a ha b hb => ?_⟩
    simp at hb
    subst hb
    exact fun e => hm (e ▸ ha)
  · intro x hx
    rcases List.mem_append.1 hx with h1 | h1
    · exact h.ok x h1
    · simp at h1; subst h1; exact hp
end Go.Proofs.Ytefplklkhcpchaa
