/- A map of pairs to truths that a call makes and fills: a set; and rows of pairs. No conditions but Go's int. -/
import Derived.Test.YtmlbjfaofppikaaPrOf
import Derived.Maps.OwnSet
import Derived.Maps.Views
import Derived.DeepKeys4
namespace Go.Proofs.Ytmlbjfaofppikaa
open Go.RowKit Go.WideMaps

theorem laidQ : laidOutB Try.prog = true := by kernel_rfl
theorem lawQ : KeyLaw Try.prog 32 := deep_law_laid laidQ (m := 2) (by omega) (of_decide_eq_true (by kernel_rfl)) (by kernel_rfl) (by rw [Try.underlying32])
theorem keyedQ : Go.Maps.Keyed Try.prog 32 := Go.Maps.Keyed.of_law lawQ
def qkey (p : PP) : Lit := .string (keyBytes [.int .i64 p.node, .int .i64 p.state, .int .i64 p.turn])
theorem keyOf_qq {p : PP} (h : okPP p) : keyOf Try.prog 32 (ppv p) = some (qkey p) := by
  obtain ⟨h1, h2, h3⟩ := h
  have hk : Try.prog.keyType 32 = true := by kernel_rfl
  have hc : Try.prog.cellsOf 32 = 3 := by kernel_rfl
  have hi : Try.prog.cellsOf 3 = 1 := by kernel_rfl
  have hs : ∃ d, Try.prog.types.size + 1 = d + 1 + 1 := by
    have h1 : 1 ≤ Try.prog.types.size := of_decide_eq_true (by kernel_rfl)
    exact ⟨Try.prog.types.size - 1, by omega⟩
  obtain ⟨d, hs⟩ := hs
  unfold keyOf
  rw [Try.underlying32]
  simp only [hk, Value.formed, Try.underlying32, hc]
  rw [hs]
  simp [Program.keyLits, Try.underlying32, Try.underlying3, hc, hi, h1, h2, h3, Value.cells, qkey]
theorem qkey_inj {p q : PP} (hp : okPP p) (hq : okPP q) (h : qkey p = qkey q) : p = q := by
  have h1 := keyOf_qq hp
  rw [h] at h1
  have := keyedQ.inj h1 (keyOf_qq hq)
  simp only [ppv, Value.agg.injEq, Array.mk.injEq, List.cons.injEq, Value.int.injEq, true_and, and_true] at this
  cases p
  cases q
  simp only at this
  obtain ⟨rfl, rfl, rfl⟩ := this
  rfl
theorem qkey_is (p : PP) : WideAt.IsKeyLit (qkey p) := trivial
/-- the set of pairs -/
def QD : List PP → DataW Unit → DataW Unit
  | [], D => D
  | x :: l, D => QD l (D.put (qkey x) (.lit (.bool true)))
theorem QD_snoc : ∀ (l : List PP) (D : DataW Unit) (x : PP), QD (l ++ [x]) D = (QD l D).put (qkey x) (.lit (.bool true))
  | [], _, _ => rfl
  | _ :: l, _, x => QD_snoc l _ x
theorem snoc_rec {α : Type} {C : List α → Prop} (h0 : C []) (h1 : ∀ l x, C l → C (l ++ [x])) (l : List α) : C l := by
  have : ∀ n (l : List α), l.length = n → C l := by
    intro n
    induction n with
    | zero => intro l hl; rw [List.eq_nil_of_length_eq_zero hl]; exact h0
    | succ n ih =>
      intro l hl
      have hne : l ≠ [] := by intro e; rw [e] at hl; cases hl
      rw [← List.dropLast_concat_getLast hne]
      exact h1 _ _ (ih _ (by rw [List.length_dropLast]; omega))
  exact this _ l rfl
theorem QD_isMap (l : List PP) : Go.Maps.IsMap (QD l (.map [])) := by
  induction l using snoc_rec with
  | h0 => exact Go.Maps.isMap_empty
  | h1 l p ih => rw [QD_snoc]; exact ih.put _ _
theorem QD_look (l : List PP) (hok : ∀ p ∈ l, okPP p) (q : PP) (hq : okPP q) : (QD l (.map [])).atKey (qkey q) (.lit (.bool false)) = .lit (.bool (decide (q ∈ l))) := by
  induction l using snoc_rec with
  | h0 => rfl
  | h1 l p ih =>
    have i1 := ih (fun x hx => hok x (by simp [hx]))
    rw [QD_snoc]
    by_cases he : q = p
    · subst he
      rw [Go.Maps.atKey_put_same (QD_isMap l) (qkey_is _)]
      simp
    · have hk : qkey q ≠ qkey p := fun e => he (qkey_inj hq (hok p (by simp)) e)
      rw [Go.Maps.atKey_put_other hk, i1]
      simp [he]
/-- a map in memory: the set of pairs -/
structure QMap (w : World) (b : Nat) (l : List PP) : Prop where
  own : w.ownsMap (H := Unit) Try.prog 32 (plainElem Try.prog 4) b l.length (QD l (.map []))
  ok : ∀ p ∈ l, okPP p
theorem QMap.lt {w : World} {b : Nat} {l : List PP} (h : QMap w b l) : b < w.heap.size := World.ownsMap.lt h.own
theorem QMap.keep {w w' : World} {b : Nat} {l : List PP} (h : QMap w b l) (hk : w'.heap[b]? = w.heap[b]?) : QMap w' b l := by
  obtain ⟨⟨es, cl, hb, r⟩, h3⟩ := h
  exact ⟨⟨es, cl, hk.trans hb, r⟩, h3⟩
theorem QMap.keeps {w w' : World} {b : Nat} {l : List PP} {S : Nat → Prop} (h : QMap w b l) (hk : Keeps w w' S) (hn : ¬ S b) : QMap w' b l := h.keep (hk.block b h.lt hn)
theorem QMap.made (w : World) : QMap (w.alloc (.map #[] 0)) w.heap.size [] := ⟨World.ownsMap_made _ _ _ _, by simp⟩
theorem zeroBool (w : World) : (zeroValue 4).run Try.prog w = .ok (.bool false) w := by kernel_rfl
theorem plainBool_inv {P : Program} {e : TypeId} (he : P.underlying e = some .bool) {v : Value} {z : DataW Unit × List MemPlace} (h : plainElem P e v = some z) : ∃ b, v = .bool b ∧ z = (.lit (.bool b), []) := by
  unfold plainElem at h
  rw [he] at h
  cases v <;> simp at h
  exact ⟨_, rfl, h.symm⟩
theorem QMap.look {w : World} {b : Nat} {l : List PP} (h : QMap w b l) {p : PP} (hp : okPP p) :
    (Instr.lookup 87 (.map (some b)) (ppv p) false).run Try.prog w = .ok (.bool (decide (p ∈ l))) w := by
  obtain ⟨v, ps, hrun, hv⟩ := h.own.lookup keyedQ Try.underlying87 (zeroBool w) (zd := .lit (.bool false)) (zp := []) (plainElem_bool Try.underlying4 false) (keyOf_qq hp)
  obtain ⟨c, rfl, hc⟩ := plainBool_inv Try.underlying4 hv
  simp only [Prod.mk.injEq] at hc
  rw [QD_look l h.ok p hp] at hc
  simp only [DataW.lit.injEq, Lit.bool.injEq] at hc
  rw [hrun, hc.1]
theorem QMap.put {w : World} {b : Nat} {l : List PP} (h : QMap w b l) {p : PP} (hp : okPP p) (hl : l.length ≤ 1000000000) :
    ∃ w', (Instr.mapUpdate 87 (.map (some b)) (ppv p) (.bool true)).run Try.prog w = .ok () w' ∧ QMap w' b (l ++ [p]) ∧ w.grownBy w' (some b) := by
  obtain ⟨w', hrun, ho, hg⟩ := h.own.update keyedQ Try.underlying87 (by unfold maxLen; omega) (keyOf_qq hp) (plainElem_bool (H := Unit) Try.underlying4 true)
  refine ⟨w', hrun, ⟨?_, ?_⟩, hg⟩
  · rw [QD_snoc, List.length_append]
    exact ho
  · intro x hx
    rcases List.mem_append.1 hx with h1 | h1
    · exact h.ok x h1
    · simp at h1; subst h1; exact hp

/-! rows of pairs -/
def qcells (l : List PP) : List Value := l.flatMap fun p => [.int .i64 p.node, .int .i64 p.state, .int .i64 p.turn]
theorem qcells_snoc (l : List PP) (p : PP) : qcells (l ++ [p]) = qcells l ++ [.int .i64 p.node, .int .i64 p.state, .int .i64 p.turn] := by simp [qcells]
theorem qcells_len (l : List PP) : (qcells l).length = l.length * 3 := by
  induction l with
  | nil => rfl
  | cons p l ih => simp only [qcells, List.flatMap_cons, List.length_append, List.length_cons, List.length_nil] at ih ⊢; omega
theorem qcells_at : ∀ (l : List PP) (i : Nat) (hi : i < l.length), (qcells l)[i * 3]? = some (.int .i64 l[i].node) ∧ (qcells l)[i * 3 + 1]? = some (.int .i64 l[i].state) ∧ (qcells l)[i * 3 + 2]? = some (.int .i64 l[i].turn)
  | p :: l, 0, _ => by simp [qcells]
  | p :: l, i + 1, hi => by
    have := qcells_at l i (by simpa using hi)
    simp only [qcells, List.flatMap_cons, List.getElem_cons_succ] at this ⊢
    rw [show (i + 1) * 3 = 3 + i * 3 by omega, show 3 + i * 3 + 1 = 3 + (i * 3 + 1) by omega, show 3 + i * 3 + 2 = 3 + (i * 3 + 2) by omega]
    rw [List.getElem?_append_right (by simp), List.getElem?_append_right (by simp only [List.length_cons, List.length_nil]; omega), List.getElem?_append_right (by simp only [List.length_cons, List.length_nil]; omega)]
    simpa using this
def OwnQ (w : World) (base e : Nat) (a : Option Addr) (cap : Nat) (l : List PP) : Prop := OwnR w base e 3 a l.length cap (qcells l)
theorem OwnQ.at {w : World} {base e cap : Nat} {a : Option Addr} {l : List PP} (h : OwnQ w base e a cap l) (i : Nat) (hi : i < l.length) :
    ∃ g, a = some ⟨g, 0, none⟩ ∧ base ≤ g ∧ g < w.heap.size ∧ w.cell? ⟨g, i * 3, none⟩ = some (.int .i64 l[i].node) ∧ w.cell? ⟨g, i * 3 + 1, none⟩ = some (.int .i64 l[i].state) ∧ w.cell? ⟨g, i * 3 + 2, none⟩ = some (.int .i64 l[i].turn) := by
  obtain ⟨g, rfl, h1, h2⟩ := OwnR.addr h (by omega)
  obtain ⟨c1, c2, c3⟩ := qcells_at l i hi
  exact ⟨g, rfl, h1, h2, by rw [OwnR.cell h _ (by omega), c1], by rw [OwnR.cell h _ (by omega), c2], by rw [OwnR.cell h _ (by omega), c3]⟩
/-- pairs at an address -/
def PpsAt (w : World) (a : Option Addr) (l : List PP) : Prop :=
  0 < l.length → ∃ b off, a = some ⟨b, off, none⟩ ∧ ∀ i (hi : i < l.length), w.cell? ⟨b, off + i * 3, none⟩ = some (.int .i64 l[i].node) ∧ w.cell? ⟨b, off + i * 3 + 1, none⟩ = some (.int .i64 l[i].state) ∧ w.cell? ⟨b, off + i * 3 + 2, none⟩ = some (.int .i64 l[i].turn)
theorem PpsAt.of_own {w : World} {base e cap : Nat} {a : Option Addr} {l : List PP} (h : OwnQ w base e a cap l) : PpsAt w a l := fun h0 => by
  obtain ⟨g, rfl, _, _, _, _⟩ := h.at 0 h0
  refine ⟨g, 0, rfl, fun i hi => ?_⟩
  obtain ⟨g', hg', _, _, c⟩ := h.at i hi
  cases hg'
  rw [Nat.zero_add]
  exact c
theorem PpsAt.below {w w' : World} {a : Option Addr} {l : List PP} (h : PpsAt w a l) (hb : Below w.heap.size w w') : PpsAt w' a l := fun h0 => by
  obtain ⟨b, off, ha, hc⟩ := h h0
  exact ⟨b, off, ha, fun i hi => ⟨bcell hb (hc i hi).1, bcell hb (hc i hi).2.1, bcell hb (hc i hi).2.2⟩⟩
theorem PpsAt.at {w : World} {a : Option Addr} {l : List PP} (h : PpsAt w a l) (i : Nat) (hi : i < l.length) : ∃ b off, a = some ⟨b, off, none⟩ ∧ b < w.heap.size ∧ w.cell? ⟨b, off + i * 3, none⟩ = some (.int .i64 l[i].node) ∧ w.cell? ⟨b, off + i * 3 + 1, none⟩ = some (.int .i64 l[i].state) ∧ w.cell? ⟨b, off + i * 3 + 2, none⟩ = some (.int .i64 l[i].turn) := by
  obtain ⟨b, off, ha, hc⟩ := h (by omega)
  exact ⟨b, off, ha, World.block_lt_of_cell? w _ (hc i hi).1, hc i hi⟩
theorem infoQ : (Try.prog.info? TPP).map (fun i => (i.zero, i.size, i.bytes)) = some (some (.agg #[.int .i64 0, .int .i64 0, .int .i64 0]), 3, 24) := by kernel_rfl
/-- pairs that a call has found so far, and the set of them -/
structure Acc (w : World) (B mb : Nat) (a : Option Addr) (c : Nat) (l : List PP) : Prop where
  map : QMap w mb l
  own : OwnQ w B TPP a c l
  hmb : B ≤ mb
  ne : Hid (∀ j, (Value.slice a l.length c).ownBlock = some j → j ≠ mb)
def HotQ (mb : Nat) (a : Option Addr) (n c : Nat) (j : Nat) : Prop := j = mb ∨ (Value.slice a n c).ownBlock = some j
theorem Acc.keeps {w w' : World} {B mb : Nat} {a : Option Addr} {c : Nat} {l : List PP} {S : Nat → Prop} (h : Acc w B mb a c l) (hk : Keeps w w' S) (hn : ∀ j, HotQ mb a l.length c j → ¬ S j) : Acc w' B mb a c l :=
  ⟨h.map.keeps hk (hn _ (.inl rfl)), OwnR.keeps h.own hk (fun j hj => hn j (.inr hj)), h.hmb, h.ne⟩
theorem Acc.below {w w' : World} {B mb : Nat} {a : Option Addr} {c : Nat} {l : List PP} (h : Acc w B mb a c l) (hb : Below w.heap.size w w') : Acc w' B mb a c l :=
  h.keeps (S := fun _ => False) (Keeps.of_below hb) (fun _ _ h => h)
theorem Acc.hotB {w : World} {B mb : Nat} {a : Option Addr} {c : Nat} {l : List PP} (h : Acc w B mb a c l) {j : Nat} (hj : HotQ mb a l.length c j) : B ≤ j ∧ j < w.heap.size := by
  rcases hj with rfl | hj
  · exact ⟨h.hmb, h.map.lt⟩
  · exact OwnR.lt h.own hj
/-- from one to another -/
def Finds (w : World) (mb : Nat) (a : Option Addr) (n c : Nat) (w' : World) (a' : Option Addr) (n' c' : Nat) : Prop :=
  Keeps w w' (HotQ mb a n c) ∧ Hid (∀ j, (Value.slice a' n' c').ownBlock = some j → (Value.slice a n c).ownBlock = some j ∨ w.heap.size ≤ j)
theorem Finds.refl (w : World) (mb : Nat) (a : Option Addr) (n c : Nat) : Finds w mb a n c w a n c := ⟨Keeps.refl _ _, fun _ h => .inl h⟩
theorem Finds.trans {w w1 w2 : World} {mb : Nat} {a a1 a2 : Option Addr} {n n1 n2 c c1 c2 : Nat} (h : Finds w mb a n c w1 a1 n1 c1) (k : Finds w1 mb a1 n1 c1 w2 a2 n2 c2) : Finds w mb a n c w2 a2 n2 c2 :=
  ⟨h.1.trans k.1 (fun j hj hh => by
    rcases hh with h1 | h1
    · exact .inl h1
    · rcases h.2.out j h1 with h2 | h2
      · exact .inr h2
      · omega), fun j hj => by
    rcases k.2.out j hj with h1 | h1
    · exact h.2.out j h1
    · exact .inr (Nat.le_trans h.1.size h1)⟩
theorem Finds.below_r {w w1 w2 : World} {mb : Nat} {a a1 : Option Addr} {n n1 c c1 : Nat} (h : Finds w mb a n c w1 a1 n1 c1) (hb : Below w1.heap.size w1 w2) : Finds w mb a n c w2 a1 n1 c1 :=
  ⟨h.1.trans (Keeps.of_below (S := fun _ => False) hb) (fun _ _ h => h.elim), h.2⟩
end Go.Proofs.Ytmlbjfaofppikaa
