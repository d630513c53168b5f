/- General lemmas on worlds: numbers in memory, what stays when memory grows, and append and make in the forms that the walks use. No conditions. -/
import Derived.Test.YtjacphcnanopjaaDoorChecked
import Derived.WalkKit
import Derived.ProofKit
import Derived.OpenShut
import Derived.Deep.QuietTactic
import Derived.BigQuiet
import Derived.WalkLawsBesides
import Derived.WalkSpells
import Derived.Lib.Hide
import Derived.StillTailTactics
import Derived.Deep.Slices
import Derived.Deep.Strs
import Derived.Lib.SmallJoins
import Derived.SizedLaws
namespace Go.Proofs.YtjacphcnanopjaaDoor
open Go.RowKit Go.ChangeShapes Go.WideShapes Go.ChangeAt Go.Deep

theorem ret_bool {a b : Bool} (h : a = b) : Ending.returned (.bool a) = .returned (.bool b) := by rw [h]
theorem ret_int {k : IntKind} {a b : Int} (h : a = b) : Ending.returned (.int k a) = .returned (.int k b) := by rw [h]

theorem bcell {W w1 : World} (hb : Below W.heap.size W w1) {a : Addr} {v : Value} (h : W.cell? a = some v) : w1.cell? a = some v :=
  (hb.cell (p := a) (World.block_lt_of_cell? W a h)).trans h
theorem bdrewN {B : Nat} {a w : World} (h : Below B a w) (n : Nat) : Below B a (w.drewN n) := ⟨h.os, h.tape, h.output, h.size, h.block⟩
theorem balloc {w w1 : World} (h : Below w.heap.size w w1) (o : Obj) : Below w.heap.size w (w1.alloc o) := h.alloc h.size o
theorem btrans {w w1 w2 : World} (h : Below w.heap.size w w1) (k : Below w1.heap.size w1 w2) : Below w.heap.size w w2 := h.trans (k.mono h.size)
theorem bgrown {w w1 w2 : World} {row : Option Nat} (h : Below w.heap.size w w1) (hg : w1.grownBy w2 row) (hr : ∀ k, row = some k → w.heap.size ≤ k) : Below w.heap.size w w2 := h.grown hg h.size hr

/-- nothing but draws -/
def Quiet (w w' : World) : Prop := ∃ n, w' = w.drewN n
theorem Quiet.refl (w : World) : Quiet w w := ⟨0, rfl⟩
theorem Quiet.one (w : World) (n : Nat) : Quiet w (w.drewN n) := ⟨n, rfl⟩
theorem Quiet.two (w : World) (n m : Nat) : Quiet w ((w.drewN n).drewN m) := ⟨n + m, by simp [World.drewN, Nat.add_assoc]⟩
theorem Quiet.below {w w' : World} (h : Quiet w w') (B : Nat) : Below B w w' := by
  obtain ⟨n, rfl⟩ := h
  exact ⟨rfl, rfl, rfl, Nat.le_refl _, fun _ _ => rfl⟩

/-- numbers of a kind, read at an address, cell by cell -/
def NumsAt (k : IntKind) (w : World) (a : Option Addr) (xs : List Int) : Prop :=
  0 < xs.length → ∃ b off, a = some ⟨b, off, none⟩ ∧ ∀ i, i < xs.length → w.cell? ⟨b, off + i, none⟩ = some (.int k (xs.getD i 0))

section
variable {k : IntKind} {w w' wr : World} {a : Option Addr} {xs : List Int}
theorem NumsAt.below (h : NumsAt k w a xs) (hb : Below w.heap.size w w') : NumsAt k w' a xs := by
  intro h0
  obtain ⟨b, off, ha, hc⟩ := h h0
  exact ⟨b, off, ha, fun i hi => bcell hb (hc i hi)⟩
/-- numbers stay while the one block that they lie in stays -/
theorem NumsAt.keep (h : NumsAt k w a xs) (hb : ∀ ad, a = some ad → ad.block < w.heap.size → w'.heap[ad.block]? = w.heap[ad.block]?) : NumsAt k w' a xs := by
  intro h0
  obtain ⟨b, off, ha, hc⟩ := h h0
  refine ⟨b, off, ha, fun i hi => ?_⟩
  have hlt := World.block_lt_of_cell? w _ (hc i hi)
  exact (World.cell?_of_block (w := w) (a := ⟨b, off + i, none⟩) (hb ⟨b, off, none⟩ ha hlt)).trans (hc i hi)
theorem NumsAt.at (h : NumsAt k w a xs) (j : Nat) (hk : j < xs.length) :
    ∃ b off x, a = some ⟨b, off, none⟩ ∧ w.cell? ⟨b, off + j, none⟩ = some (.int k x) ∧ Hid (x = xs.getD j 0) := by
  obtain ⟨b, off, ha, hc⟩ := h (by omega)
  exact ⟨b, off, _, ha, hc j hk, rfl⟩
theorem NumsAt.atb (h : NumsAt k w a xs) (hb : Below w.heap.size w wr) (j : Nat) (hk : j < xs.length) :
    ∃ b off x, a = some ⟨b, off, none⟩ ∧ b < w.heap.size ∧ wr.cell? ⟨b, off + j, none⟩ = some (.int k x) ∧ Hid (x = xs.getD j 0) := by
  obtain ⟨b, off, x, ha, hc, hx⟩ := h.at j hk
  exact ⟨b, off, x, ha, World.block_lt_of_cell? w _ hc, bcell hb hc, hx⟩
theorem NumsAt.alloc (h : NumsAt k w a xs) (o : Obj) : NumsAt k (w.alloc o) a xs := h.below ((Below.refl _ _).alloc (Nat.le_refl _) o)
theorem NumsAt.drewN (h : NumsAt k w a xs) (n : Nat) : NumsAt k (w.drewN n) a xs := h
theorem NumsAt.quiet (h : NumsAt k w a xs) (hq : Quiet w w') : NumsAt k w' a xs := h.below (hq.below _)
end
theorem NumsAt.nil (k : IntKind) (w : World) (a : Option Addr) : NumsAt k w a [] := fun h => by simp at h

/-- a literal list of numbers, laid in a new block -/
theorem nums_new {k : IntKind} {w : World} {n T : Nat} (hn : n = w.heap.size) (cs : Array Value) (xs : List Int) (h : cs.toList = xs.map (.int k)) : NumsAt k (w.alloc (.cells cs T)) (some ⟨n, 0, none⟩) xs := by
  intro _
  refine ⟨n, 0, rfl, fun i hi => ?_⟩
  rw [World.cell?_alloc_at _ _ _ _ hn, ← Array.getElem?_toList, h]
  simp [List.getD, List.getElem?_eq_getElem hi]

/-! a row of cells, known whole -/
def RowAt (w : World) (B T : Nat) (l : List Value) : Prop := w.heap[B]? = some (.cells l.toArray T (0, 0))
section
variable {w w' : World} {B T : Nat} {l : List Value}
theorem RowAt.lt (h : RowAt w B T l) : B < w.heap.size := (Array.getElem?_eq_some_iff.1 h).1
theorem RowAt.cell (h : RowAt w B T l) (j : Nat) : w.cell? ⟨B, j, none⟩ = l[j]? := by
  unfold RowAt at h
  simp [World.cell?, h]
theorem RowAt.free (h : RowAt w B T l) (j : Nat) : w.frozen? ⟨B, j, none⟩ = false := by
  unfold RowAt at h
  simp [World.frozen?, h]
theorem RowAt.keep (h : RowAt w B T l) (hb : w'.heap[B]? = w.heap[B]?) : RowAt w' B T l := hb.trans h
theorem RowAt.below (h : RowAt w B T l) (hb : Below w.heap.size w w') : RowAt w' B T l := h.keep (hb.block B h.lt)
theorem RowAt.set (h : RowAt w B T l) (j : Nat) (v : Value) : RowAt (w.setCell ⟨B, j, none⟩ v) B T (l.set j v) := by
  unfold RowAt at h ⊢
  simp [World.setCell, Array.getElem?_modify, h]
theorem RowAt.other (h : RowAt w B T l) {b : Nat} (hb : b ≠ B) (j : Nat) (v : Value) : RowAt (w.setCell ⟨b, j, none⟩ v) B T l :=
  h.keep (Below.heap_setCell _ _ _ _ (by simpa using fun e => hb e.symm))
theorem RowAt.new {n : Nat} (c : Array Value) (hn : n = w.heap.size) : RowAt (w.alloc (.cells c T)) n T c.toList := by
  subst hn
  unfold RowAt
  rw [heap_alloc_new]
end

/-! what a call owns -/
/-- a slice of n numbers, at the head of a row of the call's own -/
def OwnN (k : IntKind) (w : World) (base e : Nat) (a : Option Addr) (n cap : Nat) (xs : List Int) : Prop := w.ownsRow base e 1 (.slice a n cap) n (xs.map (Value.int k))
section
variable {k : IntKind} {w : World} {base e g n cap : Nat} {a : Option Addr} {xs : List Int}
theorem owns_len (h : OwnN k w base e a n cap xs) : xs.length = n := by
  unfold OwnN at h
  have := h.1
  simpa using this
theorem NumsAt.of_owns (h : OwnN k w base e a n cap xs) : NumsAt k w a xs := by
  have hl := owns_len h
  unfold OwnN at h
  rcases h.2 with ⟨hv, hn⟩ | ⟨g, cap', cur, hv, _⟩
  · rw [hn] at hl
    intro h0
    omega
  · simp at hv
    obtain ⟨rfl, rfl⟩ := hv
    intro _
    refine ⟨g, 0, rfl, fun i hi => ?_⟩
    rw [Nat.zero_add, h.cellAt i (by omega)]
    simp [List.getD, List.getElem?_eq_getElem hi]
theorem own_at (h : OwnN k w base e (some ⟨g, 0, none⟩) n cap xs) (j : Nat) (hk : j < xs.length) :
    ∃ y, w.cell? ⟨g, j, none⟩ = some (.int k y) ∧ Hid (y = xs.getD j 0) := by
  have hl := owns_len h
  unfold OwnN at h
  refine ⟨xs.getD j 0, ?_, rfl⟩
  rw [h.cellAt j (by omega)]
  simp [List.getD, List.getElem?_eq_getElem hk]
theorem own_set (h : OwnN k w base e (some ⟨g, 0, none⟩) n cap xs) (j : Nat) (y : Int) :
    OwnN k (w.setCell ⟨g, j, none⟩ (.int k y)) base e (some ⟨g, 0, none⟩) n cap (xs.set j y) := by
  unfold OwnN at h ⊢
  rw [List.map_set]
  exact (h.stored j _).1
/-- the address of what is owned and is not empty -/
theorem own_addr {sz : Nat} {cells : List Value} (h : w.ownsRow base e sz (.slice a n cap) n cells) (h0 : 0 < n) : ∃ g, a = some ⟨g, 0, none⟩ ∧ base ≤ g ∧ g < w.heap.size := by
  rcases h.2 with ⟨hv, hn⟩ | ⟨g, cap', cur, hv, hb, hh, _⟩
  · omega
  · simp at hv
    exact ⟨g, hv.1, hb, (Array.getElem?_eq_some_iff.1 hh).1⟩
theorem own_block {sz : Nat} {cells : List Value} (h : w.ownsRow base e sz (.slice a n cap) n cells) : ∀ j, (Value.slice a n cap).ownBlock = some j → base ≤ j := fun j hj => (h.lt j hj).1
theorem OwnN.nil (k : IntKind) (w : World) (base e : Nat) : OwnN k w base e none 0 0 [] := World.ownsRow_nil _ _ _ _
theorem OwnN.alloc (h : OwnN k w base e a n cap xs) (o : Obj) : OwnN k (w.alloc o) base e a n cap xs := World.ownsRow.alloc h o
theorem OwnN.block (h : OwnN k w base e a n cap xs) : ∀ j, (Value.slice a n cap).ownBlock = some j → base ≤ j := fun j hj => (World.ownsRow.lt h j hj).1
theorem OwnN.free (h : OwnN k w base e (some ⟨g, 0, none⟩) n cap xs) (j : Nat) : w.frozen? ⟨g, j, none⟩ = false := World.ownsRow.frozenAt h j
theorem OwnN.addr (h : OwnN k w base e a n cap xs) (h0 : 0 < n) : ∃ g, a = some ⟨g, 0, none⟩ ∧ base ≤ g ∧ g < w.heap.size := by
  unfold OwnN at h
  rcases h.2 with ⟨hv, hn⟩ | ⟨g, cap', cur, hv, hb, hh, _⟩
  · omega
  · simp at hv
    exact ⟨g, hv.1, hb, (Array.getElem?_eq_some_iff.1 hh).1⟩
theorem OwnN.caps (h : OwnN k w base e a n cap xs) : n ≤ cap ∧ cap ≤ maxLen := by
  unfold OwnN at h
  rcases h.2 with ⟨hv, hn⟩ | ⟨g, cap', cur, hv, hb, hh, h1, h2, _⟩
  · simp at hv; obtain ⟨_, rfl, rfl⟩ := hv; exact ⟨Nat.le_refl _, Nat.zero_le _⟩
  · simp at hv
    rw [hv.2]
    exact ⟨h1, h2⟩
theorem own_form {sz : Nat} {v : Value} {cells : List Value} (h : w.ownsRow base e sz v n cells) : ∃ a cap, v = .slice a n cap := by
  rcases h.2 with ⟨hv, hn⟩ | ⟨g, cap', cur, hv, _⟩
  · exact ⟨none, 0, by rw [hv, hn]⟩
  · exact ⟨_, _, hv⟩
theorem own_cap {sz : Nat} {cells : List Value} (h : w.ownsRow base e sz (.slice a n cap) n cells) : n ≤ cap ∧ cap ≤ maxLen := by
  rcases h.2 with ⟨hv, hn⟩ | ⟨g, cap', cur, hv, hb, hh, h1, h2, _⟩
  · simp at hv; obtain ⟨_, rfl, rfl⟩ := hv; exact ⟨Nat.le_refl _, Nat.zero_le _⟩
  · simp at hv
    rw [hv.2]
    exact ⟨h1, h2⟩
end

section
variable {P : Program} {w : World} {ops : Array Oper} {rest : List Oper} {o : Oper} {act : Act} {Q : Exit → Act → World → Prop}
/-- 'append(out, y)', out the call's own numbers: y lies in a new block of its own. -/
theorem wp_app1 (hgd : o.guard = none) (s x : Operand) (t e : TypeId) (k : IntKind) (by_ : Nat)
    (ho : o.op = .call { callee := .builtin .append, args := #[s, x], argTypes := #[t, t] }) (ht : P.underlying t = some (.slice e))
    (hi : (P.info? e).map (fun i => (i.zero, i.size, i.bytes)) = some (some (.int k 0), 1, by_)) (base : Nat)
    (a : Option Addr) (n cap : Nat) (xs : List Int) (hs : act.eval s = .slice a n cap) (hown : OwnN k w base e a n cap xs)
    (g c : Nat) (y : Int) (hx : act.eval x = .slice (some ⟨g, 0, none⟩) 1 c) (hy : w.cell? ⟨g, 0, none⟩ = some (.int k y))
    (hbytes : (n + 1) * by_ ≤ 140737488355328) (hby : 0 < by_) (hbase : base ≤ w.heap.size)
    (h : ∀ a' cap' w', OwnN k w' base e a' (n + 1) cap' (xs ++ [y]) → w.grownBy w' (Value.slice a n cap).ownBlock → wpList P ops Q rest (act.put o.dst (.slice a' (n + 1) cap')) w') :
    wpList P ops Q (o :: rest) act w := by
  obtain ⟨i, h1, h2, h3, h4⟩ := info_parts hi
  refine wpList_append_own w hgd s x t ho base e i (.int k 0) 1 by_ ht h1 h2 h3 h4 rfl (by decide) _ n (xs.map (.int k)) hs hown ⟨g, 0, none⟩ 1 c [.int k y] hx rfl ?_ ?_ ?_ hbytes hbase ?_
  · intro j u hj
    match j, hj with
    | 0, hj =>
      simp at hj
      subst hj
      simpa [Addr.add] using hy
  · intro u hu
    simp at hu
    subst hu
    rfl
  · unfold maxLen
    have : (n + 1) * 1 ≤ (n + 1) * by_ := Nat.mul_le_mul_left _ hby
    omega
  · intro v' w' hown' hg _
    obtain ⟨a', cap', rfl⟩ := own_form hown'
    refine h a' cap' w' ?_ hg
    unfold OwnN
    simpa using hown'

/-- 'append(out, ys...)', out the call's own numbers -/
theorem wp_appN (hgd : o.guard = none) (s x : Operand) (t e : TypeId) (k : IntKind) (by_ : Nat)
    (ho : o.op = .call { callee := .builtin .append, args := #[s, x], argTypes := #[t, t] }) (ht : P.underlying t = some (.slice e))
    (hi : (P.info? e).map (fun i => (i.zero, i.size, i.bytes)) = some (some (.int k 0), 1, by_)) (base : Nat)
    (a : Option Addr) (n cap : Nat) (xs : List Int) (hs : act.eval s = .slice a n cap) (hown : OwnN k w base e a n cap xs)
    (ad : Addr) (m c : Nat) (ys : List Int) (hx : act.eval x = .slice (some ad) m c) (hm : m = ys.length) (hy : NumsAt k w (some ad) ys)
    (hbytes : (n + m) * by_ ≤ 140737488355328) (hby : 0 < by_) (hbase : base ≤ w.heap.size)
    (h : ∀ a' cap' w', OwnN k w' base e a' (n + m) cap' (xs ++ ys) → w.grownBy w' (Value.slice a n cap).ownBlock → wpList P ops Q rest (act.put o.dst (.slice a' (n + m) cap')) w') :
    wpList P ops Q (o :: rest) act w := by
  obtain ⟨i, h1, h2, h3, h4⟩ := info_parts hi
  refine wpList_append_own w hgd s x t ho base e i (.int k 0) 1 by_ ht h1 h2 h3 h4 rfl (by decide) _ n (xs.map (.int k)) hs hown ad m c (ys.map (.int k)) hx (by simp [hm]) ?_ ?_ ?_ hbytes hbase ?_
  · intro j u hj
    have hlt : j < ys.length := by
      have := (List.getElem?_eq_some_iff.1 hj).1
      simpa using this
    obtain ⟨b, off, ha, hc⟩ := hy (by omega)
    obtain rfl := Option.some.inj ha
    have e1 : (⟨b, off, none⟩ : Addr).add j = ⟨b, off + j, none⟩ := by unfold Addr.add; split <;> simp_all
    rw [e1, hc j hlt]
    simp only [List.getElem?_map, List.getElem?_eq_getElem hlt, Option.map_some] at hj
    simp only [List.getD, List.getElem?_eq_getElem hlt, Option.getD_some]
    exact hj
  · intro u hu
    obtain ⟨z, _, rfl⟩ := List.mem_map.1 hu
    rfl
  · unfold maxLen
    have : (n + m) * 1 ≤ (n + m) * by_ := Nat.mul_le_mul_left _ hby
    omega
  · intro v' w' hown' hg _
    obtain ⟨a', cap', rfl⟩ := own_form hown'
    refine h a' cap' w' ?_ hg
    unfold OwnN
    rw [List.map_append]
    exact hown'

/-- 'make([]T, n)' of numbers -/
theorem wp_make (hgd : o.guard = none) (l c : Operand) (t e : TypeId) (k : IntKind) (by_ : Nat) (hop : o.op = Op.makeSlice t l c) (ht : P.underlying t = some (.slice e))
    (hi : (P.info? e).map (fun i => (i.zero, i.size, i.bytes)) = some (some (.int k 0), 1, by_)) (base : Nat)
    (n : Nat) (hl : act.eval l = .int .i64 n) (hc : act.eval c = .int .i64 n) (hbytes : by_ * n ≤ 281474976710656) (hby : 0 < by_) (hbase : base ≤ w.heap.size)
    (h : ∀ w', OwnN k w' base e (some ⟨w.heap.size, 0, none⟩) n n (List.replicate n (0 : Int)) → w.grownBy w' none → wpList P ops Q rest (act.put o.dst (.slice (some ⟨w.heap.size, 0, none⟩) n n)) w') :
    wpList P ops Q (o :: rest) act w := by
  obtain ⟨i, h1, h2, h3, h4⟩ := info_parts hi
  refine wpList_make_full w hgd l c t hop base e i (.int k 0) 1 ht h1 h2 h3 .i64 .i64 n n n hl hc rfl rfl (by rw [h4]; exact hbytes) ?_ hbase ?_
  · unfold maxLen
    have : 1 * n ≤ by_ * n := Nat.mul_le_mul_right _ hby
    omega
  · intro w' hown hg
    refine h w' ?_ hg
    unfold OwnN
    rw [List.map_replicate]
    simpa [Value.cells, toList_madeCells_one] using hown
end

/-! how arguments are opened -/
/-- how a row of cells reads as a plain value -/
abbrev Rd (α : Type) := World → List Value → α → Prop

def rInt (k : IntKind) : Rd Int := fun _ cs n => cs = [.int k n] ∧ (Lit.int k n).wf = true
def rBool : Rd Bool := fun _ cs b => cs = [.bool b]
def rStr : Rd ByteArray := fun _ cs s => cs = [.string s] ∧ s.size ≤ reachBytes
/-- a slice whose elements are 'sz' cells, of 'by_' bytes each -/
def rSl {α : Type} (sz by_ : Nat) (R : Rd α) : Rd (List α) := fun w cs xs =>
  ∃ a cap, cs = [.slice a xs.length cap] ∧ xs.length * by_ ≤ reachBytes ∧ xs.length ≤ cap ∧ cap ≤ maxLen ∧
    (0 < xs.length → ∃ b off, a = some ⟨b, off, none⟩ ∧ ∀ i (hi : i < xs.length), ∃ vs, vs.length = sz ∧ (∀ j, j < sz → w.cell? ⟨b, off + i * sz + j, none⟩ = vs[j]?) ∧ R w vs xs[i])

/-- what reads as data of type T reads so -/
def Opens {α : Type} (P : Program) (T : TypeId) (R : Rd α) : Prop :=
  ∀ (H : Type) (enc : TypeId × Value → H) (w : World) (fuel : Nat) (cs : List Value) (d : DataW H) (ps : List MemPlace),
    DataW.trod enc P w 0 (fun _ => true) true fuel T cs = some (d, ps) → (d.weights P T).all (· ≤ reachBytes) = true → ∃ x, R w cs x

theorem opens_int {P : Program} {T : TypeId} {k : IntKind} (h : P.underlying T = some (.int k)) : Opens P T (rInt k) := by
  intro H enc w fuel cs d ps hd _
  obtain ⟨n, h, hx, hw⟩ := DataW.trod_int h hd
  exact ⟨n, h, hw⟩
theorem opens_bool {P : Program} {T : TypeId} (h : P.underlying T = some .bool) : Opens P T rBool := by
  intro H enc w fuel cs d ps hd _
  obtain ⟨b, h, hx⟩ := DataW.trod_bool h hd
  exact ⟨b, h⟩
theorem opens_str {P : Program} {T : TypeId} (h : P.underlying T = some .string) : Opens P T rStr := by
  intro H enc w fuel cs d ps hd hwt
  obtain ⟨s, h1, hx, hs⟩ := DataW.trod_string h hd
  refine ⟨s, h1, ?_⟩
  simp at hx
  rw [hx.1] at hwt
  simp [DataW.weights] at hwt
  exact hwt

theorem weightsAll_mem {H : Type} {P : Program} {e : TypeId} {d : DataW H} : ∀ {l : List (DataW H)}, d ∈ l → ∀ n ∈ d.weights P e, n ∈ DataW.weightsAll P e l
  | x :: r, hd, n, hn => by
    simp only [DataW.weightsAll, List.mem_append]
    rcases List.mem_cons.1 hd with rfl | h
    · exact .inl hn
    · exact .inr (weightsAll_mem h n hn)

theorem weights_at {H : Type} {P : Program} {ts : List TypeId} {ds : List (DataW H)} (h : (DataW.weightsEach P ts ds).all (· ≤ reachBytes) = true) {j : Nat} {t : TypeId} {d : DataW H} (ht : ts[j]? = some t) (hd : ds[j]? = some d) :
    (d.weights P t).all (· ≤ reachBytes) = true :=
  List.all_eq_true.2 fun n hn => List.all_eq_true.1 h n (DataW.weights_mem_each ht hd n hn)

theorem choose_list {α : Type} {n : Nat} {p : Nat → α → Prop} (h : ∀ i, i < n → ∃ x, p i x) : ∃ l : List α, l.length = n ∧ ∀ i (hi : i < l.length), p i l[i] := by
  induction n with
  | zero => exact ⟨[], rfl, fun i hi => by simp at hi⟩
  | succ n ih =>
    obtain ⟨l, hl, hp⟩ := ih (fun i hi => h i (by omega))
    obtain ⟨x, hx⟩ := h n (by omega)
    refine ⟨l ++ [x], by simp [hl], fun i hi => ?_⟩
    by_cases hn : i < n
    · rw [List.getElem_append_left (by omega)]; exact hp i (by omega)
    · have e : i = n := by simp at hi; omega
      subst e
      rw [List.getElem_append_right (by omega)]
      simpa [hl] using hx

theorem add_off (b off k : Nat) : (⟨b, off, none⟩ : Addr).add k = ⟨b, off + k, none⟩ := by
  unfold Addr.add; split <;> simp_all

theorem opens_slice {α : Type} {P : Program} {T E : TypeId} {sz by_ : Nat} {R : Rd α} (hT : P.underlying T = some (.slice E)) (hc : P.cellsOf E = sz) (hby : P.bytesOf E = by_) (hsz : 0 < sz) (hE : Opens P E R) : Opens P T (rSl sz by_ R) := by
  intro H enc w fuel cs d ps hd hwt
  rcases open_slice hT hd with ⟨rfl, h⟩ | ⟨a, len, cap, m, n, D, Pl, rfl, _, hl, hm, hmm, hx, hel⟩
  · exact ⟨[], none, 0, rfl, by simp [reachBytes], Nat.le_refl _, Nat.zero_le _, fun h => by simp at h⟩
  · simp only [if_true] at hmm
    subst hmm
    simp only [Prod.mk.injEq] at hx
    obtain ⟨rfl, _⟩ := hx
    rw [List.all_eq_true] at hwt
    have hone : ∀ i, i < len → ∃ x : α, ∃ vs, vs.length = sz ∧ (∀ j, j < sz → w.cell? ((a.add (i * sz)).add j) = vs[j]?) ∧ R w vs x := by
      intro i hi
      obtain ⟨cs', h1, h2⟩ := hel i (by omega)
      rw [hc] at h1
      obtain ⟨_, h3, h4⟩ := World.cells?_some h1
      obtain ⟨x, hx⟩ := hE H enc w n cs' (D i) (Pl i) h2 (List.all_eq_true.2 fun k hk => hwt k (by
        simp only [DataW.weights, hT, List.mem_cons, List.mem_append]
        exact .inr (.inl (weightsAll_mem (List.mem_map.2 ⟨i, List.mem_range.2 hi, rfl⟩) k hk))))
      exact ⟨x, cs', h3, h4, hx⟩
    obtain ⟨xs, hxl, hxs⟩ := choose_list hone
    have hr := hwt ((len + (m - len)) * by_) (by simp [DataW.weights, hT, hby])
    simp only [decide_eq_true_eq] at hr
    have hr2 : xs.length * by_ ≤ reachBytes := Nat.le_trans (Nat.mul_le_mul_right _ (by omega)) hr
    refine ⟨xs, some a, m, by rw [hxl], hr2, by omega, hm, fun h0 => ?_⟩
    obtain ⟨b, off, spot⟩ := a
    obtain ⟨vs, hvl, hv, _⟩ := hxs 0 h0
    have h00 := hv 0 hsz
    rw [List.getElem?_eq_getElem (by omega)] at h00
    have hspot : spot = none := by simpa [Addr.add] using World.cell?_spot h00
    subst hspot
    refine ⟨b, off, rfl, fun i hi => ?_⟩
    obtain ⟨vs, h1, h2, h3⟩ := hxs i hi
    refine ⟨vs, h1, fun j hj => ?_, h3⟩
    rw [← h2 j hj, add_off, add_off]

/-- an argument that is a slice -/
theorem open_arg_slice {α H : Type} {enc : TypeId × Value → H} {P : Program} {W : World} {T E : TypeId} {r : Reach} {base : Nat} {R : Rd α} {v : Value} {d : DataW H} {p : List MemPlace} (hT : P.underlying T = some (.slice E)) (O : Opens P T R) (hv : Value.okWide P W r base T v)
    (h : DataW.Trod enc P W 0 (fun _ => true) true T v d p) (hw : (d.weights P T).all (· ≤ reachBytes) = true) : ∃ x, R W [v] x := by
  obtain ⟨a, n, c, rfl⟩ := okWide_slice hT hv
  obtain ⟨fuel, hf⟩ := h
  exact O H enc W fuel _ d p hf hw
/-- an argument that is a text -/
theorem open_arg_str {H : Type} {enc : TypeId × Value → H} {P : Program} {W : World} {T : TypeId} {r : Reach} {base : Nat} {v : Value} {d : DataW H} {p : List MemPlace} (hT : P.underlying T = some .string) (hv : Value.okWide P W r base T v)
    (h : DataW.Trod enc P W 0 (fun _ => true) true T v d p) (hw : (d.weights P T).all (· ≤ reachBytes) = true) : ∃ s, v = .string s ∧ s.size ≤ reachBytes := by
  obtain ⟨s, rfl⟩ := okWide_string hT hv
  obtain ⟨fuel, hf⟩ := h
  obtain ⟨x, h1, h2⟩ := opens_str hT H enc W fuel _ d p hf hw
  simp [Value.cells] at h1
  exact ⟨s, rfl, h1 ▸ h2⟩

/-- a slice of numbers that came in: its shape, its bounds, its cells -/
theorem NumsAt.of_rSl {k : IntKind} {by_ : Nat} {w : World} {v : Value} {xs : List Int} (h : rSl 1 by_ (rInt k) w [v] xs) : ∃ a cap, v = .slice a xs.length cap ∧ xs.length * by_ ≤ 140737488351232 ∧ xs.length ≤ cap ∧ NumsAt k w a xs ∧ Hid (∀ x ∈ xs, (Lit.int k x).wf = true) := by
  obtain ⟨a, cap, h1, h2, h3, h4, h5⟩ := h
  refine ⟨a, cap, by simpa using h1, h2, h3, fun h0 => ?_, fun x hx => ?_⟩
  · obtain ⟨b, off, ha, hc⟩ := h5 h0
    refine ⟨b, off, ha, fun i hi => ?_⟩
    obtain ⟨vs, _, hv, hr, _⟩ := hc i hi
    have := hv 0 (by omega)
    rw [hr] at this
    simpa [List.getD, List.getElem?_eq_getElem hi] using this
  · obtain ⟨i, hi, rfl⟩ := List.mem_iff_getElem.1 hx
    obtain ⟨b, off, ha, hc⟩ := h5 (by omega)
    obtain ⟨vs, _, hv, _, hw⟩ := hc i hi
    exact hw
theorem range_i64 {n : Int} (h : (Lit.int .i64 n).wf = true) : -9223372036854775808 ≤ n ∧ n ≤ 9223372036854775807 := by
  simpa [Lit.wf, IntKind.min, IntKind.max, IntKind.signed, IntKind.bits] using h
theorem range_u8 {n : Int} (h : (Lit.int .u8 n).wf = true) : 0 ≤ n ∧ n ≤ 255 := by
  simpa [Lit.wf, IntKind.min, IntKind.max, IntKind.signed, IntKind.bits] using h
theorem range_u64 {n : Int} (h : (Lit.int .u64 n).wf = true) : 0 ≤ n ∧ n ≤ 18446744073709551615 := by
  simpa [Lit.wf, IntKind.min, IntKind.max, IntKind.signed, IntKind.bits] using h

/-! two lists of numbers -/
theorem lists_eq {xs ys : List Int} (hl : xs.length = ys.length) (h : ∀ j, j < xs.length → xs.getD j 0 = ys.getD j 0) : xs = ys := by
  apply List.ext_getElem hl
  intro i hi1 hi2
  have := h i hi1
  rw [List.getD_eq_getElem?_getD, List.getElem?_eq_getElem hi1, List.getD_eq_getElem?_getD, List.getElem?_eq_getElem hi2] at this
  simpa using this
end Go.Proofs.YtjacphcnanopjaaDoor
