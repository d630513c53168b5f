/- Graphs with sets in memory, and how an argument that is one is opened. No conditions. The walks of a graph's Check, of the program and of the document. Conditions: none but the bounds of an argument. The walks of a graph's Check whole, of the program and of the document. Conditions: none but the bounds of an argument. The walk of the document's Check of a graph. Conditions: none but the bounds of an argument. The product in plain numbers. No conditions. The library's Clone at numbers and at edges. Conditions: bytes within an append's bound. The source of a graph: its methods. Conditions: the bounds of an argument. -/
import Derived.Test.YtfcpfcgcfaacnaaSAuto
import Derived.Test.YtfcpfcgcfaacnaaSMem
namespace Go.Proofs.Ytfcpfcgcfaacnaa
open Go.RowKit Go.ChangeShapes Go.WideShapes Go.ChangeAt
abbrev TE : Nat := 102
abbrev TEs : Nat := 85
abbrev TG : Nat := 26
structure GR where
 init : List Int
 edges : List (List PR)
 labels : List Nat
def natI (l : List Nat) : List Int := l.map Int.ofNat
theorem natI_len (l : List Nat) : (natI l).length = l.length := by simp [natI]
theorem natI_at (l : List Nat) (i : Nat) : (natI l).getD i 0 = (l.getD i 0 : Int) := by
 simp only [natI, List.getD_eq_getElem?_getD, List.getElem?_map]
 cases l[i]? <;> rfl
def rEd : Rd PR := fun _ cs p => cs = [.int .i64 p.1, .int .i64 p.2]
def rU64 : Rd Nat := fun _ cs n => cs = [.int .u64 n] ∧ u64ok n
def rGR : Rd GR := fun w cs G => ∃ vi ve vl, cs = [vi, ve, vl] ∧ rSl 1 8 (rInt .i64) w [vi] G.init ∧ rSl 1 24 (rSl 2 16 rEd) w [ve] G.edges ∧ rSl 1 8 rU64 w [vl] G.labels
theorem list2 {α : Type} {l : List α} (h : l.length = 2) : ∃ a b, l = [a, b] := by
 match l, h with
 | [a, b], _ => exact ⟨a, b, rfl⟩
theorem opens_ed : Opens Try.prog TE rEd := by
 intro H enc w fuel cs d ps hd hwt
 have hl := trod_struct_len Try.underlying102 hd
 have hc : Try.prog.cellsOf TE = 2 := by kernel_rfl
 obtain ⟨c0, c1, rfl⟩ := list2 (hl.trans hc)
 obtain ⟨x0, h0⟩ := opens_field Try.underlying102 0 0 1 _ rfl rfl (by kernel_rfl) (opens_int Try.underlying3) hd hwt
 obtain ⟨x1, h1⟩ := opens_field Try.underlying102 1 1 1 _ rfl rfl (by kernel_rfl) (opens_int Try.underlying3) hd hwt
 simp only [List.drop_zero, List.drop_succ_cons, List.take_succ_cons, List.take_zero, rInt, List.cons.injEq, and_true] at h0 h1
 exact ⟨(x0, x1), by rw [rEd, h0.1, h1.1]⟩
theorem opens_u64 : Opens Try.prog 86 rU64 := by
 intro H enc w fuel cs d ps hd hwt
 obtain ⟨x, h, hw⟩ := opens_int Try.underlying86 H enc w fuel cs d ps hd hwt
 obtain ⟨m, rfl, hm⟩ := u64_nat hw
 exact ⟨m, h, hm⟩
theorem opens_rows : Opens Try.prog 23 (rSl 1 24 (rSl 2 16 rEd)) :=
 opens_slice Try.underlying23 (by kernel_rfl) (by kernel_rfl) (by decide) (opens_slice Try.underlying85 (by kernel_rfl) (by kernel_rfl) (by decide) opens_ed)
theorem opens_labs : Opens Try.prog 24 (rSl 1 8 rU64) := opens_slice Try.underlying24 (by kernel_rfl) (by kernel_rfl) (by decide) opens_u64
theorem opens_sets : Opens Try.prog 27 (rSl 1 24 (rSl 1 1 rBool)) :=
 opens_slice Try.underlying27 (by kernel_rfl) (by kernel_rfl) (by decide) (opens_slice Try.underlying73 (by kernel_rfl) (by kernel_rfl) (by decide) (opens_bool Try.underlying4))
theorem opens_GR : Opens Try.prog TG rGR := by
 intro H enc w fuel cs d ps hd hwt
 have hl := trod_struct_len Try.underlying26 hd
 have hc : Try.prog.cellsOf TG = 3 := by kernel_rfl
 obtain ⟨c0, c1, c2, rfl⟩ := list3 (hl.trans hc)
 obtain ⟨x0, h0⟩ := opens_field Try.underlying26 0 0 1 _ rfl rfl (by kernel_rfl) opens_ints hd hwt
 obtain ⟨x1, h1⟩ := opens_field Try.underlying26 1 1 1 _ rfl rfl (by kernel_rfl) opens_rows hd hwt
 obtain ⟨x2, h2⟩ := opens_field Try.underlying26 2 2 1 _ rfl rfl (by kernel_rfl) opens_labs hd hwt
 simp only [List.drop_zero, List.drop_succ_cons, List.take_succ_cons, List.take_zero] at h0 h1 h2
 exact ⟨⟨x0, x1, x2⟩, c0, c1, c2, rfl, h0, h1, h2⟩
def PairsAt (w : World) (a : Option Addr) (l : List PR) : Prop :=
 0 < l.length → ∃ b off, a = some ⟨b, off, none⟩ ∧ ∀ i (hi : i < l.length), w.cell? ⟨b, off + i * 2, none⟩ = some (.int .i64 l[i].1) ∧ w.cell? ⟨b, off + i * 2 + 1, none⟩ = some (.int .i64 l[i].2)
def EdgesAt (w : World) (a : Option Addr) (L : List (List PR)) : Prop :=
 0 < L.length → ∃ b off, a = some ⟨b, off, none⟩ ∧ ∀ i (hi : i < L.length), ∃ ai ci, w.cell? ⟨b, off + i, none⟩ = some (.slice ai L[i].length ci) ∧ L[i].length ≤ ci ∧ PairsAt w ai L[i]
def TruthsAt (w : World) (a : Option Addr) (l : List Bool) : Prop :=
 0 < l.length → ∃ b off, a = some ⟨b, off, none⟩ ∧ ∀ i (hi : i < l.length), w.cell? ⟨b, off + i, none⟩ = some (.bool l[i])
def SetsAt (w : World) (a : Option Addr) (L : List (List Bool)) : Prop :=
 0 < L.length → ∃ b off, a = some ⟨b, off, none⟩ ∧ ∀ i (hi : i < L.length), ∃ ai ci, w.cell? ⟨b, off + i, none⟩ = some (.slice ai L[i].length ci) ∧ TruthsAt w ai L[i]
section
variable {w w' : World} {a : Option Addr}
theorem PairsAt.nil (w : World) (a : Option Addr) : PairsAt w a [] := fun h => by simp at h
theorem PairsAt.below {l : List PR} (h : PairsAt w a l) (hb : Below w.heap.size w w') : PairsAt w' a l := fun h0 => by
 obtain ⟨b, off, ha, hc⟩ := h h0
 exact ⟨b, off, ha, fun i hi => ⟨bcell hb (hc i hi).1, bcell hb (hc i hi).2⟩⟩
theorem PairsAt.at {l : List PR} (h : PairsAt w a l) (i : Nat) (hi : i < l.length) : ∃ b off, a = some ⟨b, off, none⟩ ∧ b < w.heap.size ∧ w.cell? ⟨b, off + i * 2, none⟩ = some (.int .i64 l[i].1) ∧ w.cell? ⟨b, off + i * 2 + 1, none⟩ = some (.int .i64 l[i].2) := by
 obtain ⟨b, off, ha, hc⟩ := h (by omega)
 exact ⟨b, off, ha, World.block_lt_of_cell? w _ (hc i hi).1, (hc i hi).1, (hc i hi).2⟩
theorem PairsAt.of_own {B e n c : Nat} {l : List PR} (h : OwnP w B e a n c l) : PairsAt w a l := fun h0 => by
 obtain ⟨g, rfl, _, _, _, _⟩ := h.at 0 h0
 refine ⟨g, 0, rfl, fun i hi => ?_⟩
 obtain ⟨g', hg', _, _, c1, c2⟩ := h.at i hi
 cases hg'
 rw [Nat.zero_add]
 exact ⟨c1, c2⟩
theorem EdgesAt.nil (w : World) (a : Option Addr) : EdgesAt w a [] := fun h => by simp at h
theorem EdgesAt.below {L : List (List PR)} (h : EdgesAt w a L) (hb : Below w.heap.size w w') : EdgesAt w' a L := fun h0 => by
 obtain ⟨b, off, ha, hc⟩ := h h0
 refine ⟨b, off, ha, fun i hi => ?_⟩
 obtain ⟨ai, ci, h1, h2, h3⟩ := hc i hi
 exact ⟨ai, ci, bcell hb h1, h2, h3.below hb⟩
theorem EdgesAt.at {L : List (List PR)} (h : EdgesAt w a L) (i : Nat) (hi : i < L.length) : ∃ b off ai ci, a = some ⟨b, off, none⟩ ∧ b < w.heap.size ∧ w.cell? ⟨b, off + i, none⟩ = some (.slice ai L[i].length ci) ∧ L[i].length ≤ ci ∧ PairsAt w ai L[i] := by
 obtain ⟨b, off, ha, hc⟩ := h (by omega)
 obtain ⟨ai, ci, h1, h2, h3⟩ := hc i hi
 exact ⟨b, off, ai, ci, ha, World.block_lt_of_cell? w _ h1, h1, h2, h3⟩
theorem TruthsAt.below {l : List Bool} (h : TruthsAt w a l) (hb : Below w.heap.size w w') : TruthsAt w' a l := fun h0 => by
 obtain ⟨b, off, ha, hc⟩ := h h0
 exact ⟨b, off, ha, fun i hi => bcell hb (hc i hi)⟩
theorem TruthsAt.at {l : List Bool} (h : TruthsAt w a l) (i : Nat) (hi : i < l.length) : ∃ b off, a = some ⟨b, off, none⟩ ∧ b < w.heap.size ∧ w.cell? ⟨b, off + i, none⟩ = some (.bool l[i]) := by
 obtain ⟨b, off, ha, hc⟩ := h (by omega)
 exact ⟨b, off, ha, World.block_lt_of_cell? w _ (hc i hi), hc i hi⟩
theorem SetsAt.below {L : List (List Bool)} (h : SetsAt w a L) (hb : Below w.heap.size w w') : SetsAt w' a L := fun h0 => by
 obtain ⟨b, off, ha, hc⟩ := h h0
 refine ⟨b, off, ha, fun i hi => ?_⟩
 obtain ⟨ai, ci, h1, h2⟩ := hc i hi
 exact ⟨ai, ci, bcell hb h1, h2.below hb⟩
theorem SetsAt.at {L : List (List Bool)} (h : SetsAt w a L) (i : Nat) (hi : i < L.length) : ∃ b off ai ci, a = some ⟨b, off, none⟩ ∧ b < w.heap.size ∧ w.cell? ⟨b, off + i, none⟩ = some (.slice ai L[i].length ci) ∧ TruthsAt w ai L[i] := by
 obtain ⟨b, off, ha, hc⟩ := h (by omega)
 obtain ⟨ai, ci, h1, h2⟩ := hc i hi
 exact ⟨b, off, ai, ci, ha, World.block_lt_of_cell? w _ h1, h1, h2⟩
theorem SetsAt.nil (w : World) (a : Option Addr) : SetsAt w a [] := fun h => by simp at h
end
structure GAt (w : World) (ai ae al : Option Addr) (G : GR) : Prop where
 init : NumsAt .i64 w ai G.init
 edges : EdgesAt w ae G.edges
 labels : NumsAt .u64 w al (natI G.labels)
theorem GAt.below {w w' : World} {ai ae al : Option Addr} {G : GR} (h : GAt w ai ae al G) (hb : Below w.heap.size w w') : GAt w' ai ae al G := ⟨h.init.below hb, h.edges.below hb, h.labels.below hb⟩
theorem PairsAt.of_rSl {w : World} {v : Value} {xs : List PR} (h : rSl 2 16 rEd w [v] xs) : ∃ a cap, v = .slice a xs.length cap ∧ xs.length * 16 ≤ 140737488351232 ∧ xs.length ≤ cap ∧ PairsAt w a xs := by
 obtain ⟨a, cap, h1, h2, h3, _, h5⟩ := h
 refine ⟨a, cap, by simpa using h1, h2, h3, fun h0 => ?_⟩
 obtain ⟨b, off, ha, hc⟩ := h5 h0
 refine ⟨b, off, ha, fun i hi => ?_⟩
 obtain ⟨vs, _, hv, hr⟩ := hc i hi
 have h0 := hv 0 (by omega)
 have h1 := hv 1 (by omega)
 rw [hr] at h0 h1
 exact ⟨by simpa using h0, by simpa using h1⟩
theorem EdgesAt.of_rSl {w : World} {v : Value} {L : List (List PR)} (h : rSl 1 24 (rSl 2 16 rEd) w [v] L) : ∃ a cap, v = .slice a L.length cap ∧ L.length * 24 ≤ 140737488351232 ∧ L.length ≤ cap ∧ EdgesAt w a L ∧ ∀ l ∈ L, l.length * 16 ≤ 140737488351232 := by
 obtain ⟨a, cap, h1, h2, h3, _, h5⟩ := h
 have one : ∀ i (hi : i < L.length), ∃ b off ai ci, a = some ⟨b, off, none⟩ ∧ w.cell? ⟨b, off + i, none⟩ = some (.slice ai L[i].length ci) ∧ L[i].length ≤ ci ∧ PairsAt w ai L[i] ∧ L[i].length * 16 ≤ 140737488351232 := fun i hi => by
  obtain ⟨b, off, ha, hc⟩ := h5 (by omega)
  obtain ⟨vs, hvl, hv, hr⟩ := hc i hi
  obtain ⟨v0, rfl⟩ : ∃ v0, vs = [v0] := by
   match vs, hvl with
   | [v0], _ => exact ⟨v0, rfl⟩
  obtain ⟨a2, c2, rfl, h8, h9, hp⟩ := PairsAt.of_rSl hr
  have h0 := hv 0 (by omega)
  exact ⟨b, off, a2, c2, ha, by simpa using h0, h9, hp, h8⟩
 refine ⟨a, cap, by simpa using h1, h2, h3, fun h0 => ?_, fun l hl => ?_⟩
 ·obtain ⟨b, off, ha, hc⟩ := h5 h0
  refine ⟨b, off, ha, fun i hi => ?_⟩
  obtain ⟨b', off', ai, ci, ha', k1, k2, k3, _⟩ := one i hi
  rw [ha] at ha'
  cases ha'
  exact ⟨ai, ci, k1, k2, k3⟩
 ·obtain ⟨i, hi, rfl⟩ := List.mem_iff_getElem.1 hl
  obtain ⟨_, _, _, _, _, _, _, _, k⟩ := one i hi
  exact k
theorem Labs.of_rSl {w : World} {v : Value} {xs : List Nat} (h : rSl 1 8 rU64 w [v] xs) : ∃ a cap, v = .slice a xs.length cap ∧ xs.length * 8 ≤ 140737488351232 ∧ NumsAt .u64 w a (natI xs) ∧ ∀ x ∈ xs, u64ok x := by
 obtain ⟨a, cap, h1, h2, h3, _, h5⟩ := h
 refine ⟨a, cap, by simpa using h1, h2, fun h0 => ?_, fun x hx => ?_⟩
 ·rw [natI_len] at h0
  obtain ⟨b, off, ha, hc⟩ := h5 h0
  refine ⟨b, off, ha, fun i hi => ?_⟩
  rw [natI_len] at hi
  obtain ⟨vs, _, hv, hr, _⟩ := hc i hi
  have h0 := hv 0 (by omega)
  rw [hr] at h0
  rw [natI_at]
  simp at h0
  rw [h0]
  simp [List.getD, hi]
 ·obtain ⟨i, hi, rfl⟩ := List.mem_iff_getElem.1 hx
  obtain ⟨b, off, ha, hc⟩ := h5 (by omega)
  obtain ⟨vs, _, hv, _, hr⟩ := hc i hi
  exact hr
theorem TruthsAt.of_rSl {w : World} {v : Value} {xs : List Bool} (h : rSl 1 1 rBool w [v] xs) : ∃ a cap, v = .slice a xs.length cap ∧ TruthsAt w a xs := by
 obtain ⟨a, cap, h1, h2, h3, _, h5⟩ := h
 refine ⟨a, cap, by simpa using h1, fun h0 => ?_⟩
 obtain ⟨b, off, ha, hc⟩ := h5 h0
 refine ⟨b, off, ha, fun i hi => ?_⟩
 obtain ⟨vs, _, hv, hr⟩ := hc i hi
 have h0 := hv 0 (by omega)
 rw [hr] at h0
 simpa using h0
theorem SetsAt.of_rSl {w : World} {v : Value} {L : List (List Bool)} (h : rSl 1 24 (rSl 1 1 rBool) w [v] L) : ∃ a cap, v = .slice a L.length cap ∧ SetsAt w a L := by
 obtain ⟨a, cap, h1, h2, h3, _, h5⟩ := h
 refine ⟨a, cap, by simpa using h1, fun h0 => ?_⟩
 obtain ⟨b, off, ha, hc⟩ := h5 h0
 refine ⟨b, off, ha, fun i hi => ?_⟩
 obtain ⟨vs, hvl, hv, hr⟩ := hc i hi
 obtain ⟨v0, rfl⟩ : ∃ v0, vs = [v0] := by
  match vs, hvl with
  | [v0], _ => exact ⟨v0, rfl⟩
 obtain ⟨a2, c2, rfl, hp⟩ := TruthsAt.of_rSl hr
 have h0 := hv 0 (by omega)
 exact ⟨a2, c2, by simpa using h0, hp⟩
structure GOk (G : GR) : Prop where
 labs : ∀ x ∈ G.labels, u64ok x
 rows : ∀ l ∈ G.edges, l.length * 16 ≤ 140737488351232
 initL : G.init.length * 8 ≤ 140737488351232
 edgesL : G.edges.length * 24 ≤ 140737488351232
 labsL : G.labels.length * 8 ≤ 140737488351232
theorem GAt.of_rGR {w : World} {cs : List Value} {G : GR} (h : rGR w cs G) : ∃ ai ci ae ce al cl, cs = [.slice ai G.init.length ci, .slice ae G.edges.length ce, .slice al G.labels.length cl] ∧ GAt w ai ae al G ∧ GOk G := by
 obtain ⟨vi, ve, vl, rfl, hi, he, hl⟩ := h
 obtain ⟨ai, ci, rfl, b1, _, k1, _⟩ := NumsAt.of_rSl hi
 obtain ⟨ae, ce, rfl, b2, _, k2, b4⟩ := EdgesAt.of_rSl he
 obtain ⟨al, cl, rfl, b3, k3, b5⟩ := Labs.of_rSl hl
 exact ⟨ai, ci, ae, ce, al, cl, rfl, ⟨k1, k2, k3⟩, ⟨b5, b4, b1, b2, b3⟩⟩
end Go.Proofs.Ytfcpfcgcfaacnaa
namespace Go.Proofs.Ytfcpfcgcfaacnaa
open Go.RowKit
def gchk (G : GR) : Int :=
 if 65536 < G.edges.length then 11 else if G.labels.length ≠ G.edges.length then 3 else if G.init.any (outB G.edges.length) then 10 else if G.edges.any (fun l => l.any fun e => outB G.edges.length e.1) then 10 else 0
theorem gnode_any (w : World) (ai ae al : Option Addr) (ni ci n ce nl cl : Nat) (x : Int) :
  Calls Try.prog 63 #[.agg #[.slice ai ni ci, .slice ae n ce, .slice al nl cl], .int .i64 x] w fun e w' => e = .returned (.bool (!outB n x)) ∧ Below w.heap.size w w' := by
 have hb := balloc (Below.refl w.heap.size w) (.cells #[.slice ai ni ci, .slice ae n ce, .slice al nl cl] TG)
 by_cases h : x < 0
 ·have hr : Hid (outB n x = true) := by show _ = _; unfold outB; rw [decide_eq_true h]; rfl
  have h' : decide (0 ≤ x) = false := by simpa using h
  rw [hr.out]
  go_enter Try.func63, Try.ntmps63
  go_wp2
  go_ret
  exact ⟨rfl, hb⟩
 ·have h' : decide (0 ≤ x) = true := by simpa using h
  have hr : Hid ((!outB n x) = decide (x < (n : Int))) := by
   show _ = _; unfold outB
   rw [decide_eq_false h]
   by_cases h2 : (n : Int) ≤ x
   ·rw [decide_eq_true h2, decide_eq_false (by omega)]; rfl
   ·rw [decide_eq_false h2, decide_eq_true (by omega)]; rfl
  rw [hr.out]
  go_enter Try.func63, Try.ntmps63
  go_wp2
  go_ret
  exact ⟨rfl, hb⟩
theorem rnode_any (w : World) (ai ae al : Option Addr) (ni ci n ce nl cl : Nat) (x : Int) :
  Calls Try.prog 75 #[.agg #[.slice ai ni ci, .slice ae n ce, .slice al nl cl], .int .i64 x] w fun e w' => e = .returned (.bool (!outB n x)) ∧ Below w.heap.size w w' := by
 have hb := balloc (Below.refl w.heap.size w) (.cells #[.slice ai ni ci, .slice ae n ce, .slice al nl cl] TG)
 by_cases h : x < 0
 ·have hr : Hid (outB n x = true) := by show _ = _; unfold outB; rw [decide_eq_true h]; rfl
  have h' : decide (0 ≤ x) = false := by simpa using h
  rw [hr.out]
  go_enter Try.func75, Try.ntmps75
  go_wp2
  go_ret
  exact ⟨rfl, hb⟩
 ·have h' : decide (0 ≤ x) = true := by simpa using h
  have hr : Hid ((!outB n x) = decide (x < (n : Int))) := by
   show _ = _; unfold outB
   rw [decide_eq_false h]
   by_cases h2 : (n : Int) ≤ x
   ·rw [decide_eq_true h2, decide_eq_false (by omega)]; rfl
   ·rw [decide_eq_false h2, decide_eq_true (by omega)]; rfl
  rw [hr.out]
  go_enter Try.func75, Try.ntmps75
  go_wp2
  go_ret
  exact ⟨rfl, hb⟩
theorem eout_any (w : World) (ai ae al : Option Addr) (ni ci n ce nl cl b : Nat) (x y : Int) (hb : RowAt w b TG [.slice ai ni ci, .slice ae n ce, .slice al nl cl]) :
  Calls Try.prog 65 #[.agg #[.int .i64 x, .int .i64 y], .pointer (some ⟨b, 0, none⟩)] w fun e w' => e = .returned (.bool (outB n x)) ∧ Below w.heap.size w w' := by
 have N := Lib.hid (fun w => gnode_any w ai ae al ni ci n ce nl cl x)
 have hA := balloc (Below.refl w.heap.size w) (.cells #[.int .i64 x, .int .i64 y] TE)
 have hr := hb.below hA
 have c0 := hr.cell 0
 have c1 := hr.cell 1
 have c2 := hr.cell 2
 simp only [List.getElem?_cons_zero, List.getElem?_cons_succ] at c0 c1 c2
 clear hb hr
 generalize outB n x = o at N
 go_enter Try.func65, Try.ntmps65
 go_wp2_with fail
 refine (N.out _).mono ?_
 rintro e w1 ⟨rfl, hb1⟩
 go_wp2
 go_ret
 exact ⟨by cases o <;> rfl, btrans hA hb1⟩
theorem eidx_any (w : World) (ai ae al : Option Addr) (ni ci n ce nl cl b : Nat) (hb : RowAt w b TG [.slice ai ni ci, .slice ae n ce, .slice al nl cl]) (a : Option Addr) (c : Nat) (es : List PR) (h1 : PairsAt w a es) (hl : es.length ≤ 9223372036854775807) :
  Calls Try.prog 77 #[.slice a es.length c, .func (.func 65) #[] #[.pointer (some ⟨b, 0, none⟩)]] w fun e w' => ∃ k : Int, e = .returned (.int .i64 k) ∧ Hid (decide (0 ≤ k) = es.any fun e => outB n e.1) ∧ Below w.heap.size w w' := by
 have C := Lib.hid (fun wr (h : Below w.heap.size w wr) x y => eout_any wr ai ae al ni ci n ce nl cl b x y (hb.below h))
 clear hb
 go_enter Try.func77, Try.ntmps77
 go_wp2
 go_loopw [4, 8] (fun _ i wr => ∃ k : Nat, k ≤ es.length ∧ i = .int .i64 k ∧ Below w.heap.size w wr ∧ Hid ((es.take k).any (fun e => outB n e.1) = false)) (fun _ i _ => es.length - (intOf i).toNat)
 case atStart => exact ⟨0, Nat.zero_le _, rfl, Below.refl _ _, by simp [Hid]⟩
 case round =>
  obtain ⟨k, hk, rfl, hb, hall⟩ := hrel
  by_cases hlt : k < es.length
  ·obtain ⟨bb, off, rfl, _, c0, c1⟩ := (h1.below hb).at k hlt
   obtain ⟨x, hx⟩ : ∃ x, x = es[k].1 := ⟨_, rfl⟩
   obtain ⟨y, hy⟩ : ∃ y, y = es[k].2 := ⟨_, rfl⟩
   rw [← hx] at c0
   rw [← hy] at c1
   have hst : Hid ((es.take (k + 1)).any (fun e => outB n e.1) = outB n x) := by
    show _ = _
    rw [List.take_add_one, List.getElem?_eq_getElem hlt, Option.toList_some, List.any_append, hall.out, hx]
    simp
   replace hx := Lib.hid hx
   replace hy := Lib.hid hy
   cases ho : outB n x with
   | true =>
    rw [ho] at hst
    have C1 := C.out wr hb x y
    rw [ho] at C1
    replace C1 := Lib.hid C1
    clear ho
    go_wp2_with fail
    refine C1.out.mono ?_
    rintro e w9 ⟨rfl, hb9⟩
    go_wp2
    go_ret
    refine ⟨k, rfl, ?_, btrans hb hb9⟩
    show _ = _
    rw [decide_eq_true (by omega)]
    symm
    have := hst.out
    rw [List.any_eq_true] at this ⊢
    obtain ⟨y, hy, hy2⟩ := this
    exact ⟨y, List.mem_of_mem_take hy, hy2⟩
   | false =>
    rw [ho] at hst
    have C1 := C.out wr hb x y
    rw [ho] at C1
    replace C1 := Lib.hid C1
    clear ho
    go_wp2_with fail
    refine C1.out.mono ?_
    rintro e w9 ⟨rfl, hb9⟩
    have hb9' := btrans hb hb9
    clear hb hb9
    go_wp2
    go_roundw
    case rel => exact ⟨k + 1, by omega, by go_num, hb9', hst⟩
    case measure => simp [intOf]; omega
  ·obtain rfl : k = es.length := by omega
   go_wp2
   go_ret
   refine ⟨-1, rfl, ?_, hb⟩
   show _ = _
   have := hall.out
   rw [List.take_length] at this
   rw [this]
   rfl
theorem ehas_any (w : World) (ai ae al : Option Addr) (ni ci n ce nl cl b : Nat) (hb : RowAt w b TG [.slice ai ni ci, .slice ae n ce, .slice al nl cl]) (a : Option Addr) (c : Nat) (es : List PR) (h1 : PairsAt w a es) (hl : es.length ≤ 9223372036854775807) :
  Calls Try.prog 64 #[.slice a es.length c, .func (.func 65) #[] #[.pointer (some ⟨b, 0, none⟩)]] w fun e w' => e = .returned (.bool (es.any fun e => outB n e.1)) ∧ Below w.heap.size w w' := by
 have C := Lib.hid (eidx_any w ai ae al ni ci n ce nl cl b hb a c es h1 hl)
 generalize (es.any fun e => outB n e.1) = r at C
 clear h1 hl hb
 go_enter Try.func64, Try.ntmps64
 go_wp2_with fail
 refine C.out.mono ?_
 rintro e w1 ⟨k, rfl, hk, hb1⟩
 go_wp2
 go_ret
 exact ⟨ret_bool hk.out, hb1⟩
end Go.Proofs.Ytfcpfcgcfaacnaa
namespace Go.Proofs.Ytfcpfcgcfaacnaa
open Go.RowKit
theorem any_step {α : Type} {p : α → Bool} {xs : List α} {k : Nat} (hk : k < xs.length) (h : (xs.take k).any p = false) : (xs.take (k + 1)).any p = p xs[k] := by
 rw [List.take_add_one, List.getElem?_eq_getElem hk, Option.toList_some, List.any_append, h]; simp
theorem any_take {α : Type} {p : α → Bool} {xs : List α} {k : Nat} (h : (xs.take k).any p = true) : xs.any p = true := by
 rw [List.any_eq_true] at h ⊢
 obtain ⟨y, hy, hy2⟩ := h
 exact ⟨y, List.mem_of_mem_take hy, hy2⟩
abbrev edgeOut (n : Nat) (l : List PR) : Bool := l.any fun e => outB n e.1
set_option maxHeartbeats 1000000 in
theorem gcheck_any (w : World) (ai ae al : Option Addr) (ci ce cl : Nat) (G : GR) (h : GAt w ai ae al G) (ok : GOk G) :
  Calls Try.prog 35 #[.agg #[.slice ai G.init.length ci, .slice ae G.edges.length ce, .slice al G.labels.length cl]] w fun e w' => e = .returned (.int .i64 (gchk G)) ∧ Below w.heap.size w w' := by
 have b1 := ok.initL
 have b2 := ok.edgesL
 have b3 := ok.labsL
 obtain ⟨n, hn⟩ : ∃ n, n = G.edges.length := ⟨_, rfl⟩
 obtain ⟨ni, hni⟩ : ∃ n, n = G.init.length := ⟨_, rfl⟩
 obtain ⟨nl, hnl⟩ : ∃ n, n = G.labels.length := ⟨_, rfl⟩
 have hch : Hid (gchk G = if 65536 < n then 11 else if nl ≠ n then 3 else if G.init.any (outB n) then 10 else if G.edges.any (edgeOut n) then 10 else 0) := by
  show _ = _; rw [hn, hnl]; rfl
 obtain ⟨r, hr⟩ : ∃ r, r = gchk G := ⟨_, rfl⟩
 rw [← hr] at hch ⊢
 rw [← hn] at b2 ⊢
 rw [← hni] at b1 ⊢
 rw [← hnl] at b3 ⊢
 replace hr := Lib.hid hr
 obtain ⟨w1, hw1⟩ : ∃ w1, w.alloc (.cells #[.slice ai ni ci, .slice ae n ce, .slice al nl cl] TG) = w1 := ⟨_, rfl⟩
 have hb1 : Below w.heap.size w w1 := by rw [← hw1]; exact balloc (Below.refl _ _) _
 have hrow : RowAt w1 w.heap.size TG [.slice ai ni ci, .slice ae n ce, .slice al nl cl] := by rw [← hw1]; exact RowAt.new #[.slice ai ni ci, .slice ae n ce, .slice al nl cl] rfl
 have cells : ∀ wr, Below w1.heap.size w1 wr → wr.cell? ⟨w.heap.size, 0, none⟩ = some (.slice ai ni ci) ∧ wr.cell? ⟨w.heap.size, 1, none⟩ = some (.slice ae n ce) ∧ wr.cell? ⟨w.heap.size, 2, none⟩ = some (.slice al nl cl) := fun wr hb => by
  have h1 := hrow.below hb
  exact ⟨h1.cell 0, h1.cell 1, h1.cell 2⟩
 obtain ⟨c0, c1, c2⟩ := cells w1 (Below.refl _ _)
 have hw1' := Lib.hid hw1
 replace hn := Lib.hid hn
 replace hni := Lib.hid hni
 replace hnl := Lib.hid hnl
 have hG1 := h.below hb1
 replace cells := Lib.hid cells
 by_cases h1 : 65536 < n
 ·have hd : decide ((65536 : Int) < (n : Int)) = true := by simp; omega
  have hR : Hid (r = 11) := by show _ = _; rw [hch.out, if_pos h1]
  rw [hR.out]
  go_enter Try.func35, Try.ntmps35
  go_wp2
  go_ret
  exact ⟨rfl, hb1⟩
 have hd : decide ((65536 : Int) < (n : Int)) = false := by simp; omega
 by_cases h2 : nl ≠ n
 ·have hd2 : ((nl : Int) != (n : Int)) = true := by simp; omega
  have hR : Hid (r = 3) := by show _ = _; rw [hch.out, if_neg h1, if_pos h2]
  rw [hR.out]
  clear h2
  go_enter Try.func35, Try.ntmps35
  go_wp2
  go_ret
  exact ⟨rfl, hb1⟩
 have hd2 : ((nl : Int) != (n : Int)) = false := by simp; omega
 have hch2 : Hid (r = if G.init.any (outB n) then 10 else if G.edges.any (edgeOut n) then 10 else 0) := by show _ = _; rw [hch.out, if_neg h1, if_neg h2]
 clear h1 h2 hch
 have ND := Lib.hid (fun wr x => gnode_any wr ai ae al ni ci n ce nl cl x)
 go_enter Try.func35, Try.ntmps35
 go_wp2_with fail
 go_loopw [2, 21] (fun t i wr => ∃ k : Nat, k ≤ ni ∧ i = .int .i64 k ∧ Below w1.heap.size w1 wr ∧ Hid ((G.init.take k).any (outB n) = false)) (fun _ i _ => ni - (intOf i).toNat)
 case atStart => exact ⟨0, Nat.zero_le _, rfl, Below.refl _ _, by simp [Hid]⟩
 case round =>
  clear c0 c1 c2 hw1
  obtain ⟨k, hk, rfl, hb, hall⟩ := hrel
  obtain ⟨c0, c1, c2⟩ := cells.out wr hb
  by_cases hlt : k < ni
  ·have hkl : k < G.init.length := by have := hni.out; omega
   obtain ⟨bb, off, x, rfl, _, cx, hx⟩ := hG1.init.atb hb k hkl
   have hx2 : x = G.init[k] := by rw [hx.out, List.getD_eq_getElem?_getD, List.getElem?_eq_getElem hkl]; rfl
   have hst := any_step hkl hall.out
   rw [← hx2] at hst
   replace hst := Lib.hid hst
   clear hx2
   cases ho : outB n x with
   | true =>
    rw [ho] at hst
    have N1 := ND.out wr x
    rw [ho] at N1
    replace N1 := Lib.hid N1
    have hR : Hid (r = 10) := by show _ = _; rw [hch2.out, any_take hst.out]; rfl
    clear ho
    go_wp2_with fail
    refine N1.out.mono ?_
    rintro e w9 ⟨rfl, hb9⟩
    go_wp2
    go_ret
    exact ⟨ret_int hR.out.symm, btrans hb1 (btrans hb hb9)⟩
   | false =>
    rw [ho] at hst
    have N1 := ND.out wr x
    rw [ho] at N1
    replace N1 := Lib.hid N1
    clear ho
    go_wp2_with fail
    refine N1.out.mono ?_
    rintro e w9 ⟨rfl, hb9⟩
    have hb9' := btrans hb hb9
    clear hb hb9
    go_wp2
    go_roundw
    case rel => exact ⟨k + 1, by omega, by go_num, hb9', hst⟩
    case measure => simp [intOf]; omega
  ·obtain rfl : k = ni := by omega
   have hI := hall.out
   rw [List.take_of_length_le (by have := hni.out; omega)] at hI
   have hch3 : Hid (r = if G.edges.any (edgeOut n) then 10 else 0) := by show _ = _; rw [hch2.out, hI]; rfl
   clear hI hch2 hall hlt
   go_wp2_with fail
   go_loopw [2, 33] (fun t i wr => ∃ j : Nat, j ≤ n ∧ i = .int .i64 j ∧ Below w1.heap.size w1 wr ∧ Hid ((G.edges.take j).any (edgeOut n) = false)) (fun _ i _ => n - (intOf i).toNat)
   case atStart => exact ⟨0, Nat.zero_le _, rfl, hb, by simp [Hid]⟩
   case round =>
    clear c0 c1 c2 hb
    obtain ⟨j, hj, rfl, hb, hall⟩ := hrel
    by_cases hlt : j < n
    ·have hjl : j < G.edges.length := by have := hn.out; omega
     obtain ⟨bb, off, aj, cj, rfl, _, cee, _, hp⟩ := (hG1.edges.below hb).at j hjl
     obtain ⟨es, hes⟩ : ∃ es, es = G.edges[j] := ⟨_, rfl⟩
     have hst := any_step hjl hall.out
     have hrl := ok.rows _ (List.getElem_mem hjl)
     rw [← hes] at hst cee hp hrl
     have C := ehas_any wr ai (some ⟨bb, off, none⟩) al k ci n ce nl cl w.heap.size (hrow.below hb) aj cj es hp (by omega)
     replace hst := Lib.hid hst
     replace hes := Lib.hid hes
     obtain ⟨c0, c1, c2⟩ := cells.out wr hb
     cases ho : edgeOut n es with
     | true =>
      rw [ho] at hst
      rw [show (es.any fun e => outB n e.1) = true from ho] at C
      replace C := Lib.hid C
      have hR : Hid (r = 10) := by show _ = _; rw [hch3.out, any_take hst.out]; rfl
      clear ho hG1 hrl
      go_wp2_with fail
      refine C.out.mono ?_
      rintro e w9 ⟨rfl, hb9⟩
      go_wp2
      go_ret
      exact ⟨ret_int hR.out.symm, btrans hb1 (btrans hb hb9)⟩
     | false =>
      rw [ho] at hst
      rw [show (es.any fun e => outB n e.1) = false from ho] at C
      replace C := Lib.hid C
      clear ho hrl
      go_wp2_with fail
      refine C.out.mono ?_
      rintro e w9 ⟨rfl, hb9⟩
      have hb9' := btrans hb hb9
      clear hb hb9 C
      go_wp2
      go_roundw
      case rel => exact ⟨j + 1, by omega, by go_num, hb9', hst⟩
      case measure => simp [intOf]; omega
    ·obtain rfl : j = n := by omega
     have hI := hall.out
     rw [List.take_of_length_le (by have := hn.out; omega)] at hI
     have hR : Hid (r = 0) := by show _ = _; rw [hch3.out, hI]; rfl
     clear hI hch3 hall hlt
     go_wp2
     go_ret
     exact ⟨ret_int hR.out.symm, btrans hb1 hb⟩
end Go.Proofs.Ytfcpfcgcfaacnaa
namespace Go.Proofs.Ytfcpfcgcfaacnaa
open Go.RowKit
set_option maxRecDepth 10000 in
set_option maxHeartbeats 2000000 in
theorem rgcheck_any (w : World) (ai ae al : Option Addr) (ci ce cl : Nat) (G : GR) (h : GAt w ai ae al G) (ok : GOk G) :
  Calls Try.prog 60 #[.agg #[.slice ai G.init.length ci, .slice ae G.edges.length ce, .slice al G.labels.length cl]] w fun e w' => e = .returned (.int .i64 (gchk G)) ∧ Below w.heap.size w w' := by
 have b1 := ok.initL
 have b2 := ok.edgesL
 have b3 := ok.labsL
 obtain ⟨n, hn⟩ : ∃ n, n = G.edges.length := ⟨_, rfl⟩
 obtain ⟨ni, hni⟩ : ∃ n, n = G.init.length := ⟨_, rfl⟩
 obtain ⟨nl, hnl⟩ : ∃ n, n = G.labels.length := ⟨_, rfl⟩
 have hch : Hid (gchk G = if 65536 < n then 11 else if nl ≠ n then 3 else if G.init.any (outB n) then 10 else if G.edges.any (edgeOut n) then 10 else 0) := by
  show _ = _; rw [hn, hnl]; rfl
 obtain ⟨r, hr⟩ : ∃ r, r = gchk G := ⟨_, rfl⟩
 rw [← hr] at hch ⊢
 rw [← hn] at b2 ⊢
 rw [← hni] at b1 ⊢
 rw [← hnl] at b3 ⊢
 replace hr := Lib.hid hr
 obtain ⟨w1, hw1⟩ : ∃ w1, w.alloc (.cells #[.slice ai ni ci, .slice ae n ce, .slice al nl cl] TG) = w1 := ⟨_, rfl⟩
 have hb1 : Below w.heap.size w w1 := by rw [← hw1]; exact balloc (Below.refl _ _) _
 have hrow : RowAt w1 w.heap.size TG [.slice ai ni ci, .slice ae n ce, .slice al nl cl] := by rw [← hw1]; exact RowAt.new #[.slice ai ni ci, .slice ae n ce, .slice al nl cl] rfl
 have cells : ∀ wr, Below w1.heap.size w1 wr → wr.cell? ⟨w.heap.size, 0, none⟩ = some (.slice ai ni ci) ∧ wr.cell? ⟨w.heap.size, 1, none⟩ = some (.slice ae n ce) ∧ wr.cell? ⟨w.heap.size, 2, none⟩ = some (.slice al nl cl) := fun wr hb => by
  have h1 := hrow.below hb
  exact ⟨h1.cell 0, h1.cell 1, h1.cell 2⟩
 obtain ⟨c0, c1, c2⟩ := cells w1 (Below.refl _ _)
 have hw1' := Lib.hid hw1
 replace hn := Lib.hid hn
 replace hni := Lib.hid hni
 replace hnl := Lib.hid hnl
 have hG1 := h.below hb1
 replace cells := Lib.hid cells
 by_cases h1 : 65536 < n
 ·have hd : decide ((65536 : Int) < (n : Int)) = true := by simp; omega
  have hR : Hid (r = 11) := by show _ = _; rw [hch.out, if_pos h1]
  rw [hR.out]
  go_enter Try.func60, Try.ntmps60
  go_wp2
  go_ret
  exact ⟨rfl, hb1⟩
 have hd : decide ((65536 : Int) < (n : Int)) = false := by simp; omega
 by_cases h2 : nl ≠ n
 ·have hd2 : ((nl : Int) != (n : Int)) = true := by simp; omega
  have hR : Hid (r = 3) := by show _ = _; rw [hch.out, if_neg h1, if_pos h2]
  rw [hR.out]
  clear h2
  go_enter Try.func60, Try.ntmps60
  go_wp2
  go_ret
  exact ⟨rfl, hb1⟩
 have hd2 : ((nl : Int) != (n : Int)) = false := by simp; omega
 have hch2 : Hid (r = if G.init.any (outB n) then 10 else if G.edges.any (edgeOut n) then 10 else 0) := by show _ = _; rw [hch.out, if_neg h1, if_neg h2]
 clear h1 h2 hch
 have ND := Lib.hid (fun wr x => rnode_any wr ai ae al ni ci n ce nl cl x)
 go_enter Try.func60, Try.ntmps60
 go_wp2_with fail
 go_loopw [2, 3] (fun t i wr => ∃ k : Nat, k ≤ ni ∧ i = .int .i64 k ∧ Below w1.heap.size w1 wr ∧ Hid ((G.init.take k).any (outB n) = false)) (fun _ i _ => ni - (intOf i).toNat)
 case atStart => exact ⟨0, Nat.zero_le _, rfl, Below.refl _ _, by simp [Hid]⟩
 case round =>
  clear c0 c1 c2 hw1
  obtain ⟨k, hk, rfl, hb, hall⟩ := hrel
  obtain ⟨c0, c1, c2⟩ := cells.out wr hb
  by_cases hlt : k < ni
  ·have hkl : k < G.init.length := by have := hni.out; omega
   obtain ⟨bb, off, x, rfl, _, cx, hx⟩ := hG1.init.atb hb k hkl
   have hx2 : x = G.init[k] := by rw [hx.out, List.getD_eq_getElem?_getD, List.getElem?_eq_getElem hkl]; rfl
   have hst := any_step hkl hall.out
   rw [← hx2] at hst
   replace hst := Lib.hid hst
   clear hx2
   have hbd : Below w1.heap.size w1 wr.drew := ⟨hb.os, hb.tape, hb.output, hb.size, hb.block⟩
   cases ho : outB n x with
   | true =>
    rw [ho] at hst
    have N1 := ND.out wr.drew x
    rw [ho] at N1
    replace N1 := Lib.hid N1
    have hR : Hid (r = 10) := by show _ = _; rw [hch2.out, any_take hst.out]; rfl
    clear ho
    go_wp2
    refine wp_region_still_tail 6 (by kernel_rfl) (by kernel_rfl) ?_
    simp only [List.take_succ_cons, List.take_zero, List.drop_succ_cons, List.drop_zero, World.drew_eq]
    repeat still_step
    refine wpStill_nil ?_
    go_wp2_with fail
    refine N1.out.mono ?_
    rintro e w9 ⟨rfl, hb9⟩
    go_wp2
    go_ret
    exact ⟨ret_int hR.out.symm, btrans hb1 (btrans hbd hb9)⟩
   | false =>
    rw [ho] at hst
    have N1 := ND.out wr.drew x
    rw [ho] at N1
    replace N1 := Lib.hid N1
    clear ho
    go_wp2
    refine wp_region_still_tail 6 (by kernel_rfl) (by kernel_rfl) ?_
    simp only [List.take_succ_cons, List.take_zero, List.drop_succ_cons, List.drop_zero, World.drew_eq]
    repeat still_step
    refine wpStill_nil ?_
    go_wp2_with fail
    refine N1.out.mono ?_
    rintro e w9 ⟨rfl, hb9⟩
    have hb9' := btrans hbd hb9
    clear hb hbd hb9
    go_wp2
    go_roundw
    case rel => exact ⟨k + 1, by omega, by go_num, hb9', hst⟩
    case measure => simp [intOf]; omega
  ·obtain rfl : k = ni := by omega
   have hI := hall.out
   rw [List.take_of_length_le (by have := hni.out; omega)] at hI
   have hch3 : Hid (r = if G.edges.any (edgeOut n) then 10 else 0) := by show _ = _; rw [hch2.out, hI]; rfl
   clear hI hch2 hall hlt
   go_wp2_with fail
   go_loopw [2, 4] (fun t i wr => ∃ j : Nat, j ≤ n ∧ i = .int .i64 j ∧ Below w1.heap.size w1 wr ∧ Hid ((G.edges.take j).any (edgeOut n) = false)) (fun _ i _ => n - (intOf i).toNat)
   case atStart => exact ⟨0, Nat.zero_le _, rfl, hb, by simp [Hid]⟩
   case round =>
    clear c0 c1 c2 hb
    obtain ⟨j, hj, rfl, hb, hall⟩ := hrel
    by_cases hlt : j < n
    ·have hjl : j < G.edges.length := by have := hn.out; omega
     obtain ⟨bb, off, aj, cj, rfl, _, cee, _, hp⟩ := hG1.edges.at j hjl
     obtain ⟨es, hes⟩ : ∃ es, es = G.edges[j] := ⟨_, rfl⟩
     have hst := any_step hjl hall.out
     have hrl := ok.rows _ (List.getElem_mem hjl)
     rw [← hes] at hst cee hp hrl
     obtain ⟨ne, hne⟩ : ∃ ne, ne = es.length := ⟨_, rfl⟩
     rw [← hne] at cee hrl
     replace hst := Lib.hid hst
     replace hes := Lib.hid hes
     replace hne := Lib.hid hne
     obtain ⟨c0, c1, c2⟩ := cells.out wr hb
     go_wp2_with fail
     go_loopw [2, 5] (fun t i wr => ∃ m : Nat, m ≤ ne ∧ i = .int .i64 m ∧ Below w1.heap.size w1 wr ∧ Hid ((es.take m).any (fun e => outB n e.1) = false)) (fun _ i _ => ne - (intOf i).toNat)
     case atStart => exact ⟨0, Nat.zero_le _, rfl, hb, by simp [Hid]⟩
     case round =>
      clear c0 c1 c2 hb
      obtain ⟨m, hm, rfl, hb, hall2⟩ := hrel
      obtain ⟨c0, c1, c2⟩ := cells.out wr hb
      have ceer := bcell hb cee
      have hbd : Below w1.heap.size w1 wr.drew := ⟨hb.os, hb.tape, hb.output, hb.size, hb.block⟩
      by_cases hlt2 : m < ne
      ·have hml : m < es.length := by have := hne.out; omega
       obtain ⟨b2, off2, rfl, _, d0, _⟩ := (hp.below hb).at m hml
       obtain ⟨x, hx⟩ : ∃ x, x = es[m].1 := ⟨_, rfl⟩
       have hst2 := any_step hml hall2.out
       rw [← hx] at d0 hst2
       replace hst2 := Lib.hid hst2
       replace hx := Lib.hid hx
       cases ho : outB n x with
       | true =>
        rw [ho] at hst2
        have N1 := ND.out wr.drew x
        rw [ho] at N1
        replace N1 := Lib.hid N1
        have hR : Hid (r = 10) := by
         have he : edgeOut n es = true := any_take hst2.out
         have h1 := hst.out
         rw [he] at h1
         show _ = _; rw [hch3.out, any_take h1]; rfl
        clear ho
        go_wp2
        refine wp_region_still_tail 10 (by kernel_rfl) (by kernel_rfl) ?_
        simp only [List.take_succ_cons, List.take_zero, List.drop_succ_cons, List.drop_zero, World.drew_eq]
        repeat still_step
        refine wpStill_nil ?_
        go_wp2_with fail
        refine N1.out.mono ?_
        rintro e w9 ⟨rfl, hb9⟩
        go_wp2
        go_ret
        exact ⟨ret_int hR.out.symm, btrans hb1 (btrans hbd hb9)⟩
       | false =>
        rw [ho] at hst2
        have N1 := ND.out wr.drew x
        rw [ho] at N1
        replace N1 := Lib.hid N1
        clear ho
        go_wp2
        refine wp_region_still_tail 10 (by kernel_rfl) (by kernel_rfl) ?_
        simp only [List.take_succ_cons, List.take_zero, List.drop_succ_cons, List.drop_zero, World.drew_eq]
        repeat still_step
        refine wpStill_nil ?_
        go_wp2_with fail
        refine N1.out.mono ?_
        rintro e w9 ⟨rfl, hb9⟩
        have hb9' := btrans hbd hb9
        clear hb hbd hb9
        go_wp2
        go_roundw
        case rel => exact ⟨m + 1, by omega, by go_num, hb9', hst2⟩
        case measure => simp [intOf]; omega
      ·obtain rfl : m = ne := by omega
       have hI := hall2.out
       rw [List.take_of_length_le (by have := hne.out; omega)] at hI
       have h1 := hst.out
       rw [show edgeOut n es = false from hI] at h1
       replace h1 := Lib.hid h1
       clear hI hall2 hlt2 hbd
       go_wp2
       go_roundw
       case rel => exact ⟨j + 1, by omega, by go_num, hb, h1⟩
       case measure => simp [intOf]; omega
    ·obtain rfl : j = n := by omega
     obtain ⟨c0, c1, c2⟩ := cells.out wr hb
     have hI := hall.out
     rw [List.take_of_length_le (by have := hn.out; omega)] at hI
     have hR : Hid (r = 0) := by show _ = _; rw [hch3.out, hI]; rfl
     clear hI hch3 hall hlt
     go_wp2
     go_ret
     exact ⟨ret_int hR.out.symm, btrans hb1 hb⟩
end Go.Proofs.Ytfcpfcgcfaacnaa
namespace Go.Proofs.Ytfcpfcgcfaacnaa
structure PP where
 node : Int
 state : Int
 turn : Int
deriving DecidableEq, Inhabited
def bitsN (sets : List (List Bool)) (i : Nat) : Nat → Nat
 | 0 => 0
 | k + 1 => if (sets.getD k []).getD i false then bitsN sets i k ||| 2 ^ k else bitsN sets i k
def inbits (n : Nat) (sets : List (List Bool)) : List Nat := (List.range n).map fun i => bitsN sets i sets.length
def srcB (G : GR) (sets : List (List Bool)) : Bool := decide (gchk G = 0) && decide (sets.length ≤ 16) && sets.all fun s => decide (s.length = G.edges.length)
def newB (G : GR) (sets : List (List Bool)) (A : AU) : Bool := srcB G sets && decide (chk A = 0)
def readsB (x : AN) (lab : Nat) : Bool := (lab &&& x.need == x.need) && (lab &&& x.ban == 0)
def inG (n : Nat) (x : Int) : Bool := decide (0 ≤ x) && decide (x < (n : Int))
def labP (G : GR) (x : Int) : Nat := if inG G.edges.length x then G.labels.getD x.toNat 0 else 0
def edgesP (G : GR) (x : Int) : List PR := if inG G.edges.length x then G.edges.getD x.toNat [] else []
def nodeP (A : AU) (q : Int) : AN := A.nodes.getD q.toNat ⟨0, 0, 0, []⟩
def addP (l : List PP) (x : PP) : List PP := if x ∈ l then l else l ++ [x]
def pairsP (A : AU) (lab : Nat) (node turn : Int) (out : List PP) (states : List Int) : List PP :=
 states.foldl (fun out q => if readsB (nodeP A q) lab then addP out ⟨node, q, turn⟩ else out) out
def allS (sets : List (List Bool)) (A : AU) : Nat := A.sets.toNat + sets.length
def firstP (G : GR) (A : AU) : List PP := G.init.foldl (fun out n => pairsP A (labP G n) n 0 out A.init) []
def isP (sets : List (List Bool)) (A : AU) (x : PP) : Bool := inG A.nodes.length x.state && inG (max (allS sets A) 1) x.turn
def bitB (u : Nat) (t : Nat) : Bool := u.testBit t
def inbP (G : GR) (sets : List (List Bool)) (x : Int) : Nat := if inG G.edges.length x then (inbits G.edges.length sets).getD x.toNat 0 else 0
def ofP (G : GR) (sets : List (List Bool)) (A : AU) (x : PP) : Bool :=
 if x.turn < A.sets then bitB (nodeP A x.state).inn x.turn.toNat else bitB (inbP G sets x.node) (x.turn - A.sets).toNat
def turnP (G : GR) (sets : List (List Bool)) (A : AU) (x : PP) : Int := if 0 < allS sets A ∧ ofP G sets A x = true then (x.turn + 1) % (allS sets A : Int) else x.turn
def nextP (G : GR) (sets : List (List Bool)) (A : AU) (x : PP) : List PP :=
 if isP sets A x then (edgesP G x.node).foldl (fun out e => pairsP A (labP G e.1) e.1 (turnP G sets A x) out (nodeP A x.state).to) [] else []
def inP (G : GR) (sets : List (List Bool)) (A : AU) (x : PP) : Bool := isP sets A x && (decide (allS sets A = 0) || (decide (x.turn = 0) && ofP G sets A x))
def edgeP (G : GR) (sets : List (List Bool)) (A : AU) (a b : PP) : Option PR := if b ∈ nextP G sets A a then (edgesP G a.node).find? (fun e => e.1 == b.node) else none
theorem pairsP_snoc (A : AU) (lab : Nat) (node turn : Int) (out : List PP) (states : List Int) (q : Int) :
  pairsP A lab node turn out (states ++ [q]) = if readsB (nodeP A q) lab then addP (pairsP A lab node turn out states) ⟨node, q, turn⟩ else pairsP A lab node turn out states := by
 simp [pairsP]
theorem addP_len (l : List PP) (x : PP) : (addP l x).length ≤ l.length + 1 := by
 unfold addP
 split <;> simp
theorem pairsP_len (A : AU) (lab : Nat) (node turn : Int) : ∀ (states : List Int) (out : List PP), (pairsP A lab node turn out states).length ≤ out.length + states.length
 | [], _ => by simp [pairsP]
 | q :: s, out => by
  have ih := pairsP_len A lab node turn s (if readsB (nodeP A q) lab then addP out ⟨node, q, turn⟩ else out)
  simp only [pairsP, List.foldl_cons] at ih ⊢
  have : (if readsB (nodeP A q) lab then addP out ⟨node, q, turn⟩ else out).length ≤ out.length + 1 := by
   split
   ·exact addP_len _ _
   ·omega
  simp only [List.length_cons]
  omega
def okPP (x : PP) : Prop := (Lit.int .i64 x.node).wf = true ∧ (Lit.int .i64 x.state).wf = true ∧ (Lit.int .i64 x.turn).wf = true
theorem addP_all {p : PP → Prop} {l : List PP} {x : PP} (h : ∀ y ∈ l, p y) (hx : p x) : ∀ y ∈ addP l x, p y := by
 intro y hy
 unfold addP at hy
 split at hy
 ·exact h y hy
 ·rcases List.mem_append.1 hy with h1 | h1
  ·exact h y h1
  ·simp at h1
   subst h1
   exact hx
theorem pairsP_all {p : PP → Prop} (A : AU) (lab : Nat) (node turn : Int) : ∀ (states : List Int) (out : List PP), (∀ y ∈ out, p y) → (∀ q ∈ states, p ⟨node, q, turn⟩) → ∀ y ∈ pairsP A lab node turn out states, p y
 | [], _, h, _ => h
 | q :: s, out, h, hs => by
  simp only [pairsP, List.foldl_cons]
  refine pairsP_all A lab node turn s _ ?_ (fun q' hq' => hs q' (by simp [hq']))
  split
  ·exact addP_all h (hs q (by simp))
  ·exact h
end Go.Proofs.Ytfcpfcgcfaacnaa
namespace Go.Proofs.Ytfcpfcgcfaacnaa
open Go.RowKit
theorem infoI : (Try.prog.info? 3).map (fun i => (i.zero, i.size, i.bytes)) = some (some (.int .i64 0), 1, 8) := by kernel_rfl
theorem infoU : (Try.prog.info? 86).map (fun i => (i.zero, i.size, i.bytes)) = some (some (.int .u64 0), 1, 8) := by kernel_rfl
theorem infoEd : (Try.prog.info? TE).map (fun i => (i.zero, i.size, i.bytes)) = some (some (.agg #[.int .i64 0, .int .i64 0]), 2, 16) := by kernel_rfl
theorem own_none (k : IntKind) (w : World) (T _e base : Nat) (hb : base ≤ w.heap.size) : OwnN k (w.alloc (.cells #[] T)) base T (some ⟨w.heap.size, 0, none⟩) 0 0 [] :=
 World.ownsRow_made w #[] 0 hb (Nat.zero_le _) rfl
def Cloned (k : IntKind) (T : Nat) (l : List Int) (w : World) (e : Ending) (w' : World) : Prop := ∃ a c, e = .returned (.slice a l.length c) ∧ OwnN k w' w.heap.size T a l.length c l ∧ Below w.heap.size w w'
def ClonedP (l : List PR) (w : World) (e : Ending) (w' : World) : Prop := ∃ a c, e = .returned (.slice a l.length c) ∧ OwnP w' w.heap.size TE a l.length c l ∧ Below w.heap.size w w'
theorem nil_of_none {k : IntKind} {w : World} {xs : List Int} (h : NumsAt k w none xs) : xs = [] := by
 cases xs with
 | nil => rfl
 | cons x xs => obtain ⟨b, off, h, _⟩ := h (by simp); cases h
theorem clone_ints (w : World) (a1 : Option Addr) (n1 c1 : Nat) (xs : List Int) (h1 : NumsAt .i64 w a1 xs) (hn1 : n1 = xs.length) (b1 : n1 * 8 ≤ 140737488355328) :
  Calls Try.prog 34 #[.slice a1 n1 c1] w (Cloned .i64 3 xs w) := by
 subst hn1
 have hnil := fun w (a : Option Addr) (n c : Nat) => Lib.run_eql_slice_nil (P := Try.prog) w 22 3 a n c 0 0 Try.underlying22
 cases a1 with
 | none =>
  have hx : Hid (xs = []) := nil_of_none h1
  go_enter Try.func34, Try.ntmps34
  go_wp2
  go_ret
  rw [hx.out]
  exact ⟨none, 0, rfl, OwnN.nil _ _ _ _, Below.refl _ _⟩
 | some ad =>
  go_enter Try.func34, Try.ntmps34
  go_wp2_with (at_builtin; refine wp_appN rfl _ _ 22 3 .i64 8 rfl Try.underlying22 infoI w.heap.size _ 0 0 [] rfl (own_none .i64 w 3 0 w.heap.size (Nat.le_refl _)) ad xs.length c1 xs rfl rfl (h1.alloc _) (by omega) (by omega) (by simp) ?_)
  intro a' cap' w' hown hg
  have hb := bgrown (balloc (Below.refl _ _) _) hg (by intro k hk; simp [Value.ownBlock] at hk; omega)
  replace hown := Lib.hid hown
  clear hg
  go_wp2
  go_ret
  exact ⟨a', cap', rfl, by simpa using hown.out, hb⟩
theorem clone_u64s (w : World) (a1 : Option Addr) (n1 c1 : Nat) (xs : List Int) (h1 : NumsAt .u64 w a1 xs) (hn1 : n1 = xs.length) (b1 : n1 * 8 ≤ 140737488355328) :
  Calls Try.prog 36 #[.slice a1 n1 c1] w (Cloned .u64 86 xs w) := by
 subst hn1
 have hnil := fun w (a : Option Addr) (n c : Nat) => Lib.run_eql_slice_nil (P := Try.prog) w 24 86 a n c 0 0 Try.underlying24
 cases a1 with
 | none =>
  have hx : Hid (xs = []) := nil_of_none h1
  go_enter Try.func36, Try.ntmps36
  go_wp2
  go_ret
  rw [hx.out]
  exact ⟨none, 0, rfl, OwnN.nil _ _ _ _, Below.refl _ _⟩
 | some ad =>
  go_enter Try.func36, Try.ntmps36
  go_wp2_with (at_builtin; refine wp_appN rfl _ _ 24 86 .u64 8 rfl Try.underlying24 infoU w.heap.size _ 0 0 [] rfl (own_none .u64 w 86 0 w.heap.size (Nat.le_refl _)) ad xs.length c1 xs rfl rfl (h1.alloc _) (by omega) (by omega) (by simp) ?_)
  intro a' cap' w' hown hg
  have hb := bgrown (balloc (Below.refl _ _) _) hg (by intro k hk; simp [Value.ownBlock] at hk; omega)
  replace hown := Lib.hid hown
  clear hg
  go_wp2
  go_ret
  exact ⟨a', cap', rfl, by simpa using hown.out, hb⟩
theorem pairs_cells {w : World} {b off : Nat} {l : List PR} (h : ∀ i (hi : i < l.length), w.cell? ⟨b, off + i * 2, none⟩ = some (.int .i64 l[i].1) ∧ w.cell? ⟨b, off + i * 2 + 1, none⟩ = some (.int .i64 l[i].2)) :
  ∀ j u, (pcells l)[j]? = some u → w.cell? ((⟨b, off, none⟩ : Addr).add j) = some u := by
 intro j u hj
 have hjl : j < (pcells l).length := (List.getElem?_eq_some_iff.1 hj).1
 rw [pcells_len] at hjl
 have hi : j / 2 < l.length := by omega
 obtain ⟨k1, k2⟩ := h (j / 2) hi
 obtain ⟨e1, e2⟩ := pcells_at l (j / 2) hi
 rw [add_off]
 rcases Nat.mod_two_eq_zero_or_one j with hm | hm
 ·have e : j = j / 2 * 2 := by omega
  rw [e] at hj ⊢
  rw [e1] at hj
  cases hj
  exact k1
 ·have e : j = j / 2 * 2 + 1 := by omega
  rw [e] at hj ⊢
  rw [e2] at hj
  cases hj
  rw [← Nat.add_assoc]
  exact k2
theorem ownP_empty (w : World) (base : Nat) (hb : base ≤ w.heap.size) : OwnR (w.alloc (.cells #[] TE)) base TE 2 (some ⟨w.heap.size, 0, none⟩) 0 0 [] := by
 have h := World.ownsRow_lit (base := base) (e := TE) (size := 2) w #[] 0 hb (Nat.zero_le _) rfl
 exact h
set_option maxHeartbeats 1000000 in
theorem clone_pairs (w : World) (a1 : Option Addr) (n1 c1 : Nat) (xs : List PR) (h1 : PairsAt w a1 xs) (hn1 : n1 = xs.length) (b1 : n1 * 16 ≤ 140737488355328) :
  Calls Try.prog 37 #[.slice a1 n1 c1] w (ClonedP xs w) := by
 have hnil := fun w (a : Option Addr) (n c : Nat) => Lib.run_eql_slice_nil (P := Try.prog) w TEs TE a n c 0 0 Try.underlying85
 cases a1 with
 | none =>
  have hx : Hid (xs = []) := by
   show _ = _
   cases xs with
   | nil => rfl
   | cons x xs => obtain ⟨b, off, h, _⟩ := h1 (by simp); cases h
  replace hn1 := Lib.hid hn1
  go_enter Try.func37, Try.ntmps37
  go_wp2
  go_ret
  rw [hx.out]
  exact ⟨none, 0, rfl, OwnR.nil _ _ _ _, Below.refl _ _⟩
 | some ad =>
  obtain ⟨i0, hi, hz0, hz1, hz2⟩ := info_parts infoEd
  have hA := balloc (Below.refl w.heap.size w) (.cells #[] TE)
  have OW := ownP_empty w w.heap.size (Nat.le_refl _)
  have hcl : (pcells xs).length = n1 * 2 := by rw [pcells_len, hn1]
  have hcs : ∀ j u, (pcells xs)[j]? = some u → (w.alloc (.cells #[] TE)).cell? (ad.add j) = some u := by
   by_cases h0 : 0 < xs.length
   ·obtain ⟨b, off, ha, hc⟩ := (h1.below hA) h0
    cases ha
    exact pairs_cells hc
   ·intro j u hj
    have := (List.getElem?_eq_some_iff.1 hj).1
    rw [pcells_len] at this
    omega
  have h1c : ∀ u ∈ pcells xs, u.oneCell' = true := fun u hu => by
   simp only [pcells, List.mem_flatMap] at hu
   obtain ⟨p, _, hp⟩ := hu
   simp at hp
   rcases hp with rfl | rfl <;> rfl
  have y1 : 0 + n1 ≤ maxLen := by unfold maxLen; omega
  have y2 : (0 + n1) * 16 ≤ 140737488355328 := by omega
  have y3 : w.heap.size ≤ (w.alloc (.cells #[] TE)).heap.size := hA.size
  replace hn1 := Lib.hid hn1
  replace hcl := Lib.hid hcl
  replace hcs := Lib.hid hcs
  replace h1c := Lib.hid h1c
  replace OW := Lib.hid OW
  replace y1 := Lib.hid y1
  replace y2 := Lib.hid y2
  replace y3 := Lib.hid y3
  clear h1 b1
  go_enter Try.func37, Try.ntmps37
  go_wp2_with (at_builtin; refine wpList_append_own _ rfl _ _ TEs rfl w.heap.size TE i0 (.agg #[.int .i64 0, .int .i64 0]) 2 16 Try.underlying85 hi hz0 hz1 hz2 rfl (by decide) _ 0 [] rfl OW.out ad n1 c1 (pcells xs) rfl hcl.out hcs.out h1c.out y1.out y2.out y3.out ?_)
  intro v' w' hown hg _
  obtain ⟨a', cap', rfl⟩ := own_form hown
  have hb := bgrown hA hg (fun k hk => (OwnR.lt OW.out hk).1)
  have hown2 : Hid (OwnP w' w.heap.size TE a' xs.length cap' xs) := by
   show OwnR w' w.heap.size TE 2 a' xs.length cap' (pcells xs)
   rw [← hn1.out]
   exact hown
  clear hown hg hi hz0 hz1 hz2
  go_wp2
  go_ret
  exact ⟨a', cap', by rw [hn1.out]; rfl, hown2.out, hb⟩
end Go.Proofs.Ytfcpfcgcfaacnaa
namespace Go.Proofs.Ytfcpfcgcfaacnaa
open Go.RowKit
abbrev TF : Nat := 98
structure FxA (w : World) (f : Nat) (ai ae al an : Option Addr) (ci ce cl cn : Nat) (G : GR) (inb : List Nat) (ns : Nat) : Prop where
 row : RowAt w f TF [.slice ai G.init.length ci, .slice ae G.edges.length ce, .slice al G.labels.length cl, .slice an inb.length cn, .int .i64 ns]
 g : GAt w ai ae al G
 inn : NumsAt .u64 w an (natI inb)
 ll : G.labels.length = G.edges.length
 il : inb.length = G.edges.length
def FxAt (w : World) (f : Nat) (G : GR) (inb : List Nat) (ns : Nat) : Prop := ∃ ai ae al an ci ce cl cn, FxA w f ai ae al an ci ce cl cn G inb ns
theorem FxA.below {w w' : World} {f : Nat} {ai ae al an : Option Addr} {ci ce cl cn : Nat} {G : GR} {inb : List Nat} {ns : Nat} (h : FxA w f ai ae al an ci ce cl cn G inb ns) (hb : Below w.heap.size w w') : FxA w' f ai ae al an ci ce cl cn G inb ns :=
 ⟨h.row.below hb, h.g.below hb, h.inn.below hb, h.ll, h.il⟩
theorem FxAt.below {w w' : World} {f : Nat} {G : GR} {inb : List Nat} {ns : Nat} (h : FxAt w f G inb ns) (hb : Below w.heap.size w w') : FxAt w' f G inb ns := by
 obtain ⟨_, _, _, _, _, _, _, _, h⟩ := h
 exact ⟨_, _, _, _, _, _, _, _, h.below hb⟩
theorem inG_no {n : Nat} {x : Int} (h : x < 0) : inG n x = false := by unfold inG; rw [decide_eq_false (by omega)]; rfl
theorem inG_yes {n : Nat} {x : Int} (h : 0 ≤ x) : inG n x = decide (x < (n : Int)) := by unfold inG; rw [decide_eq_true h]; rfl
theorem fis_any (w : World) (f : Nat) (G : GR) (inb : List Nat) (ns : Nat) (h : FxAt w f G inb ns) (x : Int) : Calls Try.prog 107 #[.pointer (some ⟨f, 0, none⟩), .int .i64 x] w fun e w' => e = .returned (.bool (inG G.edges.length x)) ∧ w = w' := by
 obtain ⟨ai, ae, al, an, ci, ce, cl, cn, h⟩ := h
 have c1 : w.cell? ⟨f, 1, none⟩ = some (.slice ae G.edges.length ce) := h.row.cell 1
 generalize G.edges.length = n at c1 ⊢
 clear h
 by_cases h0 : x < 0
 ·have h0' : decide (0 ≤ x) = false := by simpa using h0
  have hr := Lib.hid (inG_no (n := n) h0)
  rw [hr.out]
  go_enter Try.func107, Try.ntmps107
  go_wp2
  go_ret
  exact ⟨rfl, rfl⟩
 ·have h0' : decide (0 ≤ x) = true := by simpa using h0
  have hr := Lib.hid (inG_yes (n := n) (x := x) (by omega))
  rw [hr.out]
  go_enter Try.func107, Try.ntmps107
  go_wp2
  go_ret
  exact ⟨rfl, rfl⟩
theorem flabel_any (w : World) (f : Nat) (G : GR) (inb : List Nat) (ns : Nat) (h : FxAt w f G inb ns) (x : Int) : Calls Try.prog 105 #[.pointer (some ⟨f, 0, none⟩), .int .i64 x] w fun e w' => e = .returned (.int .u64 (labP G x)) ∧ w = w' := by
 have I := fis_any w f G inb ns h x
 obtain ⟨ai, ae, al, an, ci, ce, cl, cn, h⟩ := h
 have c2 : w.cell? ⟨f, 2, none⟩ = some (.slice al G.labels.length cl) := h.row.cell 2
 cases hx : inG G.edges.length x with
 | false =>
  rw [hx] at I
  replace I := Lib.hid I
  have hr : Hid (labP G x = 0) := by show _ = _; unfold labP; rw [hx]; rfl
  rw [hr.out]
  clear h hx
  go_enter Try.func105, Try.ntmps105
  go_wp2_with fail
  refine I.out.mono ?_
  rintro e w1 ⟨rfl, rfl⟩
  go_wp2
  go_ret
  exact ⟨rfl, rfl⟩
 | true =>
  rw [hx] at I
  replace I := Lib.hid I
  have hxx : 0 ≤ x ∧ x < (G.labels.length : Int) := by
   unfold inG at hx
   simp at hx
   rw [h.ll]
   exact hx
  obtain ⟨k, rfl⟩ := Int.eq_ofNat_of_zero_le hxx.1
  have hr : Hid (((labP G k : Nat) : Int) = (natI G.labels).getD k 0) := by show _ = _; unfold labP; rw [hx, natI_at]; rfl
  obtain ⟨nl, hnl⟩ : ∃ nl, nl = G.labels.length := ⟨_, rfl⟩
  have hk : k < nl := by omega
  obtain ⟨b, off, y, rfl, cy, hy⟩ := h.g.labels.at k (by rw [natI_len]; omega)
  have hr2 : Hid (((labP G k : Nat) : Int) = y) := by show _ = _; rw [hr.out, hy.out]
  rw [hr2.out]
  rw [← hnl] at c2
  clear h hx hxx hy hnl hr
  go_enter Try.func105, Try.ntmps105
  go_wp2_with fail
  refine I.out.mono ?_
  rintro e w1 ⟨rfl, rfl⟩
  go_wp2
  go_ret
  exact ⟨rfl, rfl⟩
theorem fin_any (w : World) (f : Nat) (G : GR) (inb : List Nat) (ns : Nat) (h : FxAt w f G inb ns) (x : Int) : Calls Try.prog 104 #[.pointer (some ⟨f, 0, none⟩), .int .i64 x] w fun e w' => e = .returned (.int .u64 ((if inG G.edges.length x then inb.getD x.toNat 0 else 0 : Nat) : Int)) ∧ w = w' := by
 have I := fis_any w f G inb ns h x
 obtain ⟨ai, ae, al, an, ci, ce, cl, cn, h⟩ := h
 have c3 : w.cell? ⟨f, 3, none⟩ = some (.slice an inb.length cn) := h.row.cell 3
 cases hx : inG G.edges.length x with
 | false =>
  rw [hx] at I
  replace I := Lib.hid I
  rw [show ((if false = true then inb.getD x.toNat 0 else 0 : Nat) : Int) = 0 from rfl]
  clear h hx
  go_enter Try.func104, Try.ntmps104
  go_wp2_with fail
  refine I.out.mono ?_
  rintro e w1 ⟨rfl, rfl⟩
  go_wp2
  go_ret
  exact ⟨rfl, rfl⟩
 | true =>
  rw [hx] at I
  replace I := Lib.hid I
  have hxx : 0 ≤ x ∧ x < (inb.length : Int) := by
   unfold inG at hx
   simp at hx
   rw [h.il]
   exact hx
  obtain ⟨k, rfl⟩ := Int.eq_ofNat_of_zero_le hxx.1
  obtain ⟨nl, hnl⟩ : ∃ nl, nl = inb.length := ⟨_, rfl⟩
  have hk : k < nl := by omega
  obtain ⟨b, off, y, rfl, cy, hy⟩ := h.inn.at k (by rw [natI_len]; omega)
  have hr2 : Hid (((if true = true then inb.getD ((k : Int)).toNat 0 else 0 : Nat) : Int) = y) := by show _ = _; rw [hy.out, natI_at]; rfl
  rw [hr2.out]
  rw [← hnl] at c3
  clear h hx hxx hy hnl
  go_enter Try.func104, Try.ntmps104
  go_wp2_with fail
  refine I.out.mono ?_
  rintro e w1 ⟨rfl, rfl⟩
  go_wp2
  go_ret
  exact ⟨rfl, rfl⟩
theorem fsets_any (w : World) (f : Nat) (G : GR) (inb : List Nat) (ns : Nat) (h : FxAt w f G inb ns) : Calls Try.prog 106 #[.pointer (some ⟨f, 0, none⟩)] w fun e w' => e = .returned (.int .i64 ns) ∧ w = w' := by
 obtain ⟨ai, ae, al, an, ci, ce, cl, cn, h⟩ := h
 have c4 : w.cell? ⟨f, 4, none⟩ = some (.int .i64 ns) := h.row.cell 4
 clear h
 go_enter Try.func106, Try.ntmps106
 go_wp2
 go_ret
 exact ⟨rfl, rfl⟩
theorem ffirst_any (w : World) (f : Nat) (G : GR) (inb : List Nat) (ns : Nat) (h : FxAt w f G inb ns) (hl : G.init.length * 8 ≤ 140737488355328) : Calls Try.prog 103 #[.pointer (some ⟨f, 0, none⟩)] w (Cloned .i64 3 G.init w) := by
 obtain ⟨ai, ae, al, an, ci, ce, cl, cn, h⟩ := h
 have c0 : w.cell? ⟨f, 0, none⟩ = some (.slice ai G.init.length ci) := h.row.cell 0
 have C := Lib.hid (clone_ints w ai G.init.length ci G.init h.g.init rfl hl)
 clear h hl
 go_enter Try.func103, Try.ntmps103
 go_wp2_with fail
 refine C.out.mono ?_
 rintro e w1 ⟨a, c, rfl, h1, h2⟩
 replace h1 := Lib.hid h1
 go_wp2
 go_ret
 exact ⟨a, c, rfl, h1.out, h2⟩
theorem fedges_any (w : World) (f : Nat) (G : GR) (inb : List Nat) (ns : Nat) (h : FxAt w f G inb ns) (hl : ∀ l ∈ G.edges, l.length * 16 ≤ 140737488355328) (x : Int) : Calls Try.prog 102 #[.pointer (some ⟨f, 0, none⟩), .int .i64 x] w (ClonedP (edgesP G x) w) := by
 have I := fis_any w f G inb ns h x
 obtain ⟨ai, ae, al, an, ci, ce, cl, cn, h⟩ := h
 have c1 : w.cell? ⟨f, 1, none⟩ = some (.slice ae G.edges.length ce) := h.row.cell 1
 cases hx : inG G.edges.length x with
 | false =>
  rw [hx] at I
  replace I := Lib.hid I
  have hr : Hid (edgesP G x = []) := by show _ = _; unfold edgesP; rw [hx]; rfl
  rw [hr.out]
  clear h hx hl
  go_enter Try.func102, Try.ntmps102
  go_wp2_with fail
  refine I.out.mono ?_
  rintro e w1 ⟨rfl, rfl⟩
  go_wp2
  go_ret
  exact ⟨none, 0, rfl, OwnR.nil _ _ _ _, Below.refl _ _⟩
 | true =>
  rw [hx] at I
  replace I := Lib.hid I
  have hxx : 0 ≤ x ∧ x < (G.edges.length : Int) := by
   unfold inG at hx
   simpa using hx
  obtain ⟨k, rfl⟩ := Int.eq_ofNat_of_zero_le hxx.1
  have hk : k < G.edges.length := by omega
  have hr : edgesP G (k : Int) = G.edges[k] := by unfold edgesP; rw [hx, if_pos rfl]; simp [List.getD, hk]
  rw [hr]
  obtain ⟨b, off, a2, c2, rfl, _, ck, _, hp⟩ := h.g.edges.at k hk
  have C := Lib.hid (clone_pairs w a2 G.edges[k].length c2 G.edges[k] hp rfl (hl _ (List.getElem_mem hk)))
  obtain ⟨es, hes⟩ : ∃ es, es = G.edges[k] := ⟨_, rfl⟩
  rw [← hes] at C ck ⊢
  obtain ⟨n, hn⟩ : ∃ n, n = G.edges.length := ⟨_, rfl⟩
  rw [← hn] at c1
  have hkn : k < n := by omega
  clear h hx hxx hr hl hes hn hp
  go_enter Try.func102, Try.ntmps102
  go_wp2_with fail
  refine I.out.mono ?_
  rintro e w1 ⟨rfl, rfl⟩
  go_wp2_with fail
  refine C.out.mono ?_
  rintro e w1 ⟨a, c, rfl, h1, h2⟩
  replace h1 := Lib.hid h1
  go_wp2
  go_ret
  exact ⟨a, c, rfl, h1.out, h2⟩
end Go.Proofs.Ytfcpfcgcfaacnaa
