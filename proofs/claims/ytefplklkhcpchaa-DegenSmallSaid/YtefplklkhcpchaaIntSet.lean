/- A map of numbers to bools that a call makes and fills: a set. No conditions but Go's int. -/
import Derived.Test.YtefplklkhcpchaaMem
import Derived.Maps.OwnSet
import Derived.Maps.Views
namespace Go.Proofs.Ytefplklkhcpchaa
open Go.RowKit

theorem keyedI : Go.Maps.Keyed Try.prog 3 := Go.Maps.int_keyed Try.underlying3
def ikey (x : Int) : Lit := .int .i64 x
def okI (x : Int) : Prop := (Lit.int .i64 x).wf = true
theorem keyOf_i {x : Int} (h : okI x) : keyOf Try.prog 3 (.int .i64 x) = some (ikey x) := Go.Maps.keyOf_int_mk Try.underlying3 h
theorem ikey_inj {x y : Int} (h : ikey x = ikey y) : x = y := by
  unfold ikey at h
  simpa using h
theorem ikey_is (x : Int) : WideAt.IsKeyLit (ikey x) := trivial
/-- the set of numbers -/
def SD : List Int → DataW Unit → DataW Unit
  | [], D => D
  | x :: l, D => SD l (D.put (ikey x) (.lit (.bool true)))
theorem SD_snoc : ∀ (l : List Int) (D : DataW Unit) (x : Int), SD (l ++ [x]) D = (SD l D).put (ikey x) (.lit (.bool true))
  | [], _, _ => rfl
  | _ :: l, _, x => SD_snoc l _ x
theorem snoc_rec {α : Type} {C : List α → Prop} (h0 : C []) (h1 : ∀ l x, C l → C (l ++ [x])) (l : List α) : C l := by
  have : ∀ n (l : List α), l.length = n → C l := by
    intro n
    induction n with
    | zero => intro l hl; rw [List.eq_nil_of_length_eq_zero hl]; exact h0
    | succ n ih =>
      intro l hl
      have hne : l ≠ [] := by intro e; rw [e] at hl; cases hl
      rw [← List.dropLast_concat_getLast hne]
      exact h1 _ _ (ih _ (by rw [List.length_dropLast]; omega))
  exact this _ l rfl
theorem SD_isMap (l : List Int) : Go.Maps.IsMap (SD l (.map [])) := by
  induction l using snoc_rec with
  | h0 => exact Go.Maps.isMap_empty
  | h1 l p ih => rw [SD_snoc]; exact ih.put _ _
theorem SD_tidy (l : List Int) : Go.Maps.Tidy (SD l (.map [])) := by
  induction l using snoc_rec with
  | h0 => exact Go.Maps.tidy_empty
  | h1 l p ih => rw [SD_snoc]; exact ih.put (ikey_is p) _
theorem SD_look (l : List Int) (q : Int) : Go.Maps.has (SD l (.map [])) (ikey q) = decide (q ∈ l) ∧ (SD l (.map [])).atKey (ikey q) (.lit (.bool false)) = .lit (.bool (decide (q ∈ l))) := by
  induction l using snoc_rec with
  | h0 => exact ⟨rfl, rfl⟩
  | h1 l p ih =>
    obtain ⟨i1, i2⟩ := ih
    rw [SD_snoc]
    by_cases he : q = p
    · subst he
      rw [Go.Maps.has_put_same (SD_isMap l) (ikey_is _), Go.Maps.atKey_put_same (SD_isMap l) (ikey_is _)]
      simp
    · have hk : ikey q ≠ ikey p := fun e => he (ikey_inj e)
      rw [Go.Maps.has_put_other hk, Go.Maps.atKey_put_other hk, i1, i2]
      simp [he]
theorem SD_size {l : List Int} (h : l.Nodup) : Go.Maps.size (SD l (.map [])) = l.length := by
  induction l using snoc_rec with
  | h0 => rfl
  | h1 l p ih =>
    rw [List.nodup_append] at h
    obtain ⟨h1, _, h2⟩ := h
    have hp : p ∉ l := fun hh => h2 p hh p (by simp) rfl
    rw [SD_snoc, Go.Maps.size_put (SD_tidy l), (SD_look l p).1, ih h1]
    simp [hp]
/-- a set in memory -/
structure SMap (w : World) (b : Nat) (l : List Int) : Prop where
  own : w.ownsMap (H := Unit) Try.prog 3 (plainElem Try.prog 4) b l.length (SD l (.map []))
  nodup : l.Nodup
  ok : ∀ p ∈ l, okI p
theorem SMap.lt {w : World} {b : Nat} {l : List Int} (h : SMap w b l) : b < w.heap.size := World.ownsMap.lt h.own
theorem SMap.keep {w w' : World} {b : Nat} {l : List Int} (h : SMap w b l) (hk : w'.heap[b]? = w.heap[b]?) : SMap w' b l := by
  obtain ⟨⟨es, cl, hb, r⟩, h2, h3⟩ := h
  exact ⟨⟨es, cl, hk.trans hb, r⟩, h2, h3⟩
theorem SMap.keeps {w w' : World} {b : Nat} {l : List Int} {S : Nat → Prop} (h : SMap w b l) (hk : Keeps w w' S) (hn : ¬ S b) : SMap w' b l := h.keep (hk.block b h.lt hn)
theorem SMap.made (w : World) : SMap (w.alloc (.map #[] 0)) w.heap.size [] := ⟨World.ownsMap_made _ _ _ _, List.nodup_nil, by simp⟩
theorem zeroBool (w : World) : (zeroValue 4).run Try.prog w = .ok (.bool false) w := by kernel_rfl
theorem plainElem_bool_inv {P : Program} {e : TypeId} (he : P.underlying e = some .bool) {v : Value} {z : DataW Unit × List MemPlace} (h : plainElem P e v = some z) : ∃ a, v = .bool a ∧ z = (.lit (.bool a), []) := by
  unfold plainElem at h
  rw [he] at h
  cases v <;> simp at h
  subst h
  exact ⟨_, rfl, rfl⟩
theorem SMap.look {w : World} {b : Nat} {l : List Int} (h : SMap w b l) {x : Int} (hx : okI x) :
    (Instr.lookup 37 (.map (some b)) (.int .i64 x) false).run Try.prog w = .ok (.bool (decide (x ∈ l))) w := by
  obtain ⟨v, ps, hrun, hv⟩ := h.own.lookup keyedI Try.underlying37 (zeroBool w) (zd := .lit (.bool false)) (zp := []) (plainElem_bool Try.underlying4 false) (keyOf_i hx)
  obtain ⟨c, rfl, hc⟩ := plainElem_bool_inv Try.underlying4 hv
  simp only [Prod.mk.injEq] at hc
  rw [(SD_look l x).2] at hc
  simp only [DataW.lit.injEq, Lit.bool.injEq] at hc
  rw [hrun, hc.1]
theorem SMap.put {w : World} {b : Nat} {l : List Int} (h : SMap w b l) {x : Int} (hx : okI x) (hm : x ∉ l) (hl : l.length ≤ 1000000) :
    ∃ w', (Instr.mapUpdate 37 (.map (some b)) (.int .i64 x) (.bool true)).run Try.prog w = .ok () w' ∧ SMap w' b (l ++ [x]) ∧ w.grownBy w' (some b) := by
  obtain ⟨w', hrun, ho, hg⟩ := h.own.update keyedI Try.underlying37 (by unfold maxLen; omega) (keyOf_i hx) (plainElem_bool (H := Unit) Try.underlying4 true)
  refine ⟨w', hrun, ⟨?_, ?_, ?_⟩, hg⟩
  · rw [SD_snoc, List.length_append]
    exact ho
  · rw [List.nodup_append]
    refine ⟨h.nodup, by simp, fun a ha b hb => ?_⟩
    simp at hb
    subst hb
    exact fun e => hm (e ▸ ha)
  · intro y hy
    rcases List.mem_append.1 hy with h1 | h1
    · exact h.ok y h1
    · simp at h1; subst h1; exact hx
theorem SMap.len {w : World} {b : Nat} {l : List Int} (h : SMap w b l) (ty : TypeId) : (Builtin.len_ #[37] ty #[.map (some b)]).run Try.prog w = .ok (.int .i64 (l.length : Int)) w := by
  have h1 := h.own.len Try.underlying37 ty
  rw [SD_size h.nodup] at h1
  exact h1
end Go.Proofs.Ytefplklkhcpchaa
