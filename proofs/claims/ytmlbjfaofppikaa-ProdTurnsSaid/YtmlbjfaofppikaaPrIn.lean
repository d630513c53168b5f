/- Graphs with sets in memory, and how an argument that is one is opened. No conditions. -/
import Derived.Test.YtmlbjfaofppikaaAutoChk2
import Derived.Test.YtmlbjfaofppikaaMem
namespace Go.Proofs.Ytmlbjfaofppikaa
open Go.RowKit Go.ChangeShapes Go.WideShapes Go.ChangeAt

abbrev TE : Nat := 51
abbrev TEs : Nat := 77
abbrev TG : Nat := 26
abbrev TP : Nat := 32
/-- a graph -/
structure GR where
  init : List Int
  edges : List (List PR)
  labels : List Nat
def natI (l : List Nat) : List Int := l.map Int.ofNat
theorem natI_len (l : List Nat) : (natI l).length = l.length := by simp [natI]
theorem natI_at (l : List Nat) (i : Nat) : (natI l).getD i 0 = (l.getD i 0 : Int) := by
  simp only [natI, List.getD_eq_getElem?_getD, List.getElem?_map]
  cases l[i]? <;> rfl
def rEd : Rd PR := fun _ cs p => cs = [.int .i64 p.1, .int .i64 p.2]
def rU64 : Rd Nat := fun _ cs n => cs = [.int .u64 n] ∧ u64ok n
def rGR : Rd GR := fun w cs G => ∃ vi ve vl, cs = [vi, ve, vl] ∧ rSl 1 8 (rInt .i64) w [vi] G.init ∧ rSl 1 24 (rSl 2 16 rEd) w [ve] G.edges ∧ rSl 1 8 rU64 w [vl] G.labels
theorem list2 {α : Type} {l : List α} (h : l.length = 2) : ∃ a b, l = [a, b] := by
  match l, h with
  | [a, b], _ => exact ⟨a, b, rfl⟩
theorem opens_ed : Opens Try.prog TE rEd := by
  intro H enc w fuel cs d ps hd hwt
  have hl := trod_struct_len Try.underlying51 hd
  have hc : Try.prog.cellsOf TE = 2 := by kernel_rfl
  obtain ⟨c0, c1, rfl⟩ := list2 (hl.trans hc)
  obtain ⟨x0, h0⟩ := opens_field Try.underlying51 0 0 1 _ rfl rfl (by kernel_rfl) (opens_int Try.underlying3) hd hwt
  obtain ⟨x1, h1⟩ := opens_field Try.underlying51 1 1 1 _ rfl rfl (by kernel_rfl) (opens_int Try.underlying3) hd hwt
  simp only [List.drop_zero, List.drop_succ_cons, List.take_succ_cons, List.take_zero, rInt, List.cons.injEq, and_true] at h0 h1
  exact ⟨(x0, x1), by rw [rEd, h0.1, h1.1]⟩
theorem opens_u64 : Opens Try.prog 73 rU64 := by
  intro H enc w fuel cs d ps hd hwt
  obtain ⟨x, h, hw⟩ := opens_int Try.underlying73 H enc w fuel cs d ps hd hwt
  obtain ⟨m, rfl, hm⟩ := u64_nat hw
  exact ⟨m, h, hm⟩
theorem opens_rows : Opens Try.prog 23 (rSl 1 24 (rSl 2 16 rEd)) :=
  opens_slice Try.underlying23 (by kernel_rfl) (by kernel_rfl) (by decide) (opens_slice Try.underlying77 (by kernel_rfl) (by kernel_rfl) (by decide) opens_ed)
theorem opens_labs : Opens Try.prog 24 (rSl 1 8 rU64) := opens_slice Try.underlying24 (by kernel_rfl) (by kernel_rfl) (by decide) opens_u64
theorem opens_sets : Opens Try.prog 27 (rSl 1 24 (rSl 1 1 rBool)) :=
  opens_slice Try.underlying27 (by kernel_rfl) (by kernel_rfl) (by decide) (opens_slice Try.underlying65 (by kernel_rfl) (by kernel_rfl) (by decide) (opens_bool Try.underlying4))
theorem opens_GR : Opens Try.prog TG rGR := by
  intro H enc w fuel cs d ps hd hwt
  have hl := trod_struct_len Try.underlying26 hd
  have hc : Try.prog.cellsOf TG = 3 := by kernel_rfl
  obtain ⟨c0, c1, c2, rfl⟩ := list3 (hl.trans hc)
  obtain ⟨x0, h0⟩ := opens_field Try.underlying26 0 0 1 _ rfl rfl (by kernel_rfl) opens_ints hd hwt
  obtain ⟨x1, h1⟩ := opens_field Try.underlying26 1 1 1 _ rfl rfl (by kernel_rfl) opens_rows hd hwt
  obtain ⟨x2, h2⟩ := opens_field Try.underlying26 2 2 1 _ rfl rfl (by kernel_rfl) opens_labs hd hwt
  simp only [List.drop_zero, List.drop_succ_cons, List.take_succ_cons, List.take_zero] at h0 h1 h2
  exact ⟨⟨x0, x1, x2⟩, c0, c1, c2, rfl, h0, h1, h2⟩

/-! in memory -/
/-- pairs of numbers at an address -/
def PairsAt (w : World) (a : Option Addr) (l : List PR) : Prop :=
  0 < l.length → ∃ b off, a = some ⟨b, off, none⟩ ∧ ∀ i (hi : i < l.length), w.cell? ⟨b, off + i * 2, none⟩ = some (.int .i64 l[i].1) ∧ w.cell? ⟨b, off + i * 2 + 1, none⟩ = some (.int .i64 l[i].2)
/-- rows of pairs -/
def EdgesAt (w : World) (a : Option Addr) (L : List (List PR)) : Prop :=
  0 < L.length → ∃ b off, a = some ⟨b, off, none⟩ ∧ ∀ i (hi : i < L.length), ∃ ai ci, w.cell? ⟨b, off + i, none⟩ = some (.slice ai L[i].length ci) ∧ L[i].length ≤ ci ∧ PairsAt w ai L[i]
/-- truths at an address -/
def TruthsAt (w : World) (a : Option Addr) (l : List Bool) : Prop :=
  0 < l.length → ∃ b off, a = some ⟨b, off, none⟩ ∧ ∀ i (hi : i < l.length), w.cell? ⟨b, off + i, none⟩ = some (.bool l[i])
def SetsAt (w : World) (a : Option Addr) (L : List (List Bool)) : Prop :=
  0 < L.length → ∃ b off, a = some ⟨b, off, none⟩ ∧ ∀ i (hi : i < L.length), ∃ ai ci, w.cell? ⟨b, off + i, none⟩ = some (.slice ai L[i].length ci) ∧ TruthsAt w ai L[i]
section
variable {w w' : World} {a : Option Addr}
theorem PairsAt.nil (w : World) (a : Option Addr) : PairsAt w a [] := fun h => by simp at h
theorem PairsAt.below {l : List PR} (h : PairsAt w a l) (hb : Below w.heap.size w w') : PairsAt w' a l := fun h0 => by
  obtain ⟨b, off, ha, hc⟩ := h h0
  exact ⟨b, off, ha, fun i hi => ⟨bcell hb (hc i hi).1, bcell hb (hc i hi).2⟩⟩
theorem PairsAt.at {l : List PR} (h : PairsAt w a l) (i : Nat) (hi : i < l.length) : ∃ b off, a = some ⟨b, off, none⟩ ∧ b < w.heap.size ∧ w.cell? ⟨b, off + i * 2, none⟩ = some (.int .i64 l[i].1) ∧ w.cell? ⟨b, off + i * 2 + 1, none⟩ = some (.int .i64 l[i].2) := by
  obtain ⟨b, off, ha, hc⟩ := h (by omega)
  exact ⟨b, off, ha, World.block_lt_of_cell? w _ (hc i hi).1, (hc i hi).1, (hc i hi).2⟩
theorem PairsAt.of_own {B e n c : Nat} {l : List PR} (h : OwnP w B e a n c l) : PairsAt w a l := fun h0 => by
  obtain ⟨g, rfl, _, _, _, _⟩ := h.at 0 h0
  refine ⟨g, 0, rfl, fun i hi => ?_⟩
  obtain ⟨g', hg', _, _, c1, c2⟩ := h.at i hi
  cases hg'
  rw [Nat.zero_add]
  exact ⟨c1, c2⟩
theorem EdgesAt.nil (w : World) (a : Option Addr) : EdgesAt w a [] := fun h => by simp at h
theorem EdgesAt.below {L : List (List PR)} (h : EdgesAt w a L) (hb : Below w.heap.size w w') : EdgesAt w' a L := fun h0 => by
  obtain ⟨b, off, ha, hc⟩ := h h0
  refine ⟨b, off, ha, fun i hi => ?_⟩
  obtain ⟨ai, ci, h1, h2, h3⟩ := hc i hi
  exact ⟨ai, ci, bcell hb h1, h2, h3.below hb⟩
theorem EdgesAt.at {L : List (List PR)} (h : EdgesAt w a L) (i : Nat) (hi : i < L.length) : ∃ b off ai ci, a = some ⟨b, off, none⟩ ∧ b < w.heap.size ∧ w.cell? ⟨b, off + i, none⟩ = some (.slice ai L[i].length ci) ∧ L[i].length ≤ ci ∧ PairsAt w ai L[i] := by
  obtain ⟨b, off, ha, hc⟩ := h (by omega)
  obtain ⟨ai, ci, h1, h2, h3⟩ := hc i hi
  exact ⟨b, off, ai, ci, ha, World.block_lt_of_cell? w _ h1, h1, h2, h3⟩
theorem TruthsAt.below {l : List Bool} (h : TruthsAt w a l) (hb : Below w.heap.size w w') : TruthsAt w' a l := fun h0 => by
  obtain ⟨b, off, ha, hc⟩ := h h0
  exact ⟨b, off, ha, fun i hi => bcell hb (hc i hi)⟩
theorem TruthsAt.at {l : List Bool} (h : TruthsAt w a l) (i : Nat) (hi : i < l.length) : ∃ b off, a = some ⟨b, off, none⟩ ∧ b < w.heap.size ∧ w.cell? ⟨b, off + i, none⟩ = some (.bool l[i]) := by
  obtain ⟨b, off, ha, hc⟩ := h (by omega)
  exact ⟨b, off, ha, World.block_lt_of_cell? w _ (hc i hi), hc i hi⟩
theorem SetsAt.below {L : List (List Bool)} (h : SetsAt w a L) (hb : Below w.heap.size w w') : SetsAt w' a L := fun h0 => by
  obtain ⟨b, off, ha, hc⟩ := h h0
  refine ⟨b, off, ha, fun i hi => ?_⟩
  obtain ⟨ai, ci, h1, h2⟩ := hc i hi
  exact ⟨ai, ci, bcell hb h1, h2.below hb⟩
theorem SetsAt.at {L : List (List Bool)} (h : SetsAt w a L) (i : Nat) (hi : i < L.length) : ∃ b off ai ci, a = some ⟨b, off, none⟩ ∧ b < w.heap.size ∧ w.cell? ⟨b, off + i, none⟩ = some (.slice ai L[i].length ci) ∧ TruthsAt w ai L[i] := by
  obtain ⟨b, off, ha, hc⟩ := h (by omega)
  obtain ⟨ai, ci, h1, h2⟩ := hc i hi
  exact ⟨b, off, ai, ci, ha, World.block_lt_of_cell? w _ h1, h1, h2⟩
theorem SetsAt.nil (w : World) (a : Option Addr) : SetsAt w a [] := fun h => by simp at h
end
/-- a graph, its fields at hand -/
structure GAt (w : World) (ai ae al : Option Addr) (G : GR) : Prop where
  init : NumsAt .i64 w ai G.init
  edges : EdgesAt w ae G.edges
  labels : NumsAt .u64 w al (natI G.labels)
theorem GAt.below {w w' : World} {ai ae al : Option Addr} {G : GR} (h : GAt w ai ae al G) (hb : Below w.heap.size w w') : GAt w' ai ae al G := ⟨h.init.below hb, h.edges.below hb, h.labels.below hb⟩
theorem PairsAt.of_rSl {w : World} {v : Value} {xs : List PR} (h : rSl 2 16 rEd w [v] xs) : ∃ a cap, v = .slice a xs.length cap ∧ xs.length * 16 ≤ 140737488351232 ∧ xs.length ≤ cap ∧ PairsAt w a xs := by
  obtain ⟨a, cap, h1, h2, h3, _, h5⟩ := h
  refine ⟨a, cap, by simpa using h1, h2, h3, fun h0 => ?_⟩
  obtain ⟨b, off, ha, hc⟩ := h5 h0
  refine ⟨b, off, ha, fun i hi => ?_⟩
  obtain ⟨vs, _, hv, hr⟩ := hc i hi
  have h0 := hv 0 (by omega)
  have h1 := hv 1 (by omega)
  rw [hr] at h0 h1
  exact ⟨by simpa using h0, by simpa using h1⟩
theorem EdgesAt.of_rSl {w : World} {v : Value} {L : List (List PR)} (h : rSl 1 24 (rSl 2 16 rEd) w [v] L) : ∃ a cap, v = .slice a L.length cap ∧ L.length * 24 ≤ 140737488351232 ∧ L.length ≤ cap ∧ EdgesAt w a L ∧ ∀ l ∈ L, l.length * 16 ≤ 140737488351232 := by
  obtain ⟨a, cap, h1, h2, h3, _, h5⟩ := h
  have one : ∀ i (hi : i < L.length), ∃ b off ai ci, a = some ⟨b, off, none⟩ ∧ w.cell? ⟨b, off + i, none⟩ = some (.slice ai L[i].length ci) ∧ L[i].length ≤ ci ∧ PairsAt w ai L[i] ∧ L[i].length * 16 ≤ 140737488351232 := fun i hi => by
    obtain ⟨b, off, ha, hc⟩ := h5 (by omega)
    obtain ⟨vs, hvl, hv, hr⟩ := hc i hi
    obtain ⟨v0, rfl⟩ : ∃ v0, vs = [v0] := by
      match vs, hvl with
      | [v0], _ => exact ⟨v0, rfl⟩
    obtain ⟨a2, c2, rfl, h8, h9, hp⟩ := PairsAt.of_rSl hr
    have h0 := hv 0 (by omega)
    exact ⟨b, off, a2, c2, ha, by simpa using h0, h9, hp, h8⟩
  refine ⟨a, cap, by simpa using h1, h2, h3, fun h0 => ?_, fun l hl => ?_⟩
  · obtain ⟨b, off, ha, hc⟩ := h5 h0
    refine ⟨b, off, ha, fun i hi => ?_⟩
    obtain ⟨b', off', ai, ci, ha', k1, k2, k3, _⟩ := one i hi
    rw [ha] at ha'
    cases ha'
    exact ⟨ai, ci, k1, k2, k3⟩
  · obtain ⟨i, hi, rfl⟩ := List.mem_iff_getElem.1 hl
    obtain ⟨_, _, _, _, _, _, _, _, k⟩ := one i hi
    exact k
theorem Labs.of_rSl {w : World} {v : Value} {xs : List Nat} (h : rSl 1 8 rU64 w [v] xs) : ∃ a cap, v = .slice a xs.length cap ∧ xs.length * 8 ≤ 140737488351232 ∧ NumsAt .u64 w a (natI xs) ∧ ∀ x ∈ xs, u64ok x := by
  obtain ⟨a, cap, h1, h2, h3, _, h5⟩ := h
  refine ⟨a, cap, by simpa using h1, h2, fun h0 => ?_, fun x hx => ?_⟩
  · rw [natI_len] at h0
    obtain ⟨b, off, ha, hc⟩ := h5 h0
    refine ⟨b, off, ha, fun i hi => ?_⟩
    rw [natI_len] at hi
    obtain ⟨vs, _, hv, hr, _⟩ := hc i hi
    have h0 := hv 0 (by omega)
    rw [hr] at h0
    rw [natI_at]
    simp at h0
    rw [h0]
    simp [List.getD, hi]
  · obtain ⟨i, hi, rfl⟩ := List.mem_iff_getElem.1 hx
    obtain ⟨b, off, ha, hc⟩ := h5 (by omega)
    obtain ⟨vs, _, hv, _, hr⟩ := hc i hi
    exact hr
theorem TruthsAt.of_rSl {w : World} {v : Value} {xs : List Bool} (h : rSl 1 1 rBool w [v] xs) : ∃ a cap, v = .slice a xs.length cap ∧ TruthsAt w a xs := by
  obtain ⟨a, cap, h1, h2, h3, _, h5⟩ := h
  refine ⟨a, cap, by simpa using h1, fun h0 => ?_⟩
  obtain ⟨b, off, ha, hc⟩ := h5 h0
  refine ⟨b, off, ha, fun i hi => ?_⟩
  obtain ⟨vs, _, hv, hr⟩ := hc i hi
  have h0 := hv 0 (by omega)
  rw [hr] at h0
  simpa using h0
theorem SetsAt.of_rSl {w : World} {v : Value} {L : List (List Bool)} (h : rSl 1 24 (rSl 1 1 rBool) w [v] L) : ∃ a cap, v = .slice a L.length cap ∧ SetsAt w a L := by
  obtain ⟨a, cap, h1, h2, h3, _, h5⟩ := h
  refine ⟨a, cap, by simpa using h1, fun h0 => ?_⟩
  obtain ⟨b, off, ha, hc⟩ := h5 h0
  refine ⟨b, off, ha, fun i hi => ?_⟩
  obtain ⟨vs, hvl, hv, hr⟩ := hc i hi
  obtain ⟨v0, rfl⟩ : ∃ v0, vs = [v0] := by
    match vs, hvl with
    | [v0], _ => exact ⟨v0, rfl⟩
  obtain ⟨a2, c2, rfl, hp⟩ := TruthsAt.of_rSl hr
  have h0 := hv 0 (by omega)
  exact ⟨a2, c2, by simpa using h0, hp⟩
/-- the bounds that an argument brings along -/
structure GOk (G : GR) : Prop where
  labs : ∀ x ∈ G.labels, u64ok x
  rows : ∀ l ∈ G.edges, l.length * 16 ≤ 140737488351232
  initL : G.init.length * 8 ≤ 140737488351232
  edgesL : G.edges.length * 24 ≤ 140737488351232
  labsL : G.labels.length * 8 ≤ 140737488351232
theorem GAt.of_rGR {w : World} {cs : List Value} {G : GR} (h : rGR w cs G) : ∃ ai ci ae ce al cl, cs = [.slice ai G.init.length ci, .slice ae G.edges.length ce, .slice al G.labels.length cl] ∧ GAt w ai ae al G ∧ GOk G := by
  obtain ⟨vi, ve, vl, rfl, hi, he, hl⟩ := h
  obtain ⟨ai, ci, rfl, b1, _, k1, _⟩ := NumsAt.of_rSl hi
  obtain ⟨ae, ce, rfl, b2, _, k2, b4⟩ := EdgesAt.of_rSl he
  obtain ⟨al, cl, rfl, b3, k3, b5⟩ := Labs.of_rSl hl
  exact ⟨ai, ci, ae, ce, al, cl, rfl, ⟨k1, k2, k3⟩, ⟨b5, b4, b1, b2, b3⟩⟩
end Go.Proofs.Ytmlbjfaofppikaa
