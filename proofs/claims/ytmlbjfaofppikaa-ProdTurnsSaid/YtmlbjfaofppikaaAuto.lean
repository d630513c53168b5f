/- Automata in memory, and how an argument that is one is opened. No conditions. -/
import Derived.Test.YtmlbjfaofppikaaBase
namespace Go.Proofs.Ytmlbjfaofppikaa
open Go.RowKit Go.ChangeShapes Go.WideShapes Go.ChangeAt

/-- a node of an automaton -/
structure AN where
  need : Nat
  ban : Nat
  inn : Nat
  to : List Int
deriving DecidableEq, Inhabited
/-- an automaton -/
structure AU where
  sets : Int
  init : List Int
  nodes : List AN
deriving DecidableEq, Inhabited

/-- the cells of one field -/
theorem opens_field {α : Type} {P : Program} {T : TypeId} {fs : Array Field} {R : Rd α} (hT : P.underlying T = some (.struct fs)) (j o sz : Nat) (f : Field) (hf : fs[j]? = some f) (ho : f.offset = o) (hsz : P.cellsOf f.type = sz) (O : Opens P f.type R)
    {H : Type} {enc : TypeId × Value → H} {w : World} {fuel : Nat} {cs : List Value} {d : DataW H} {ps : List MemPlace}
    (hd : DataW.trod enc P w 0 (fun _ => true) true fuel T cs = some (d, ps)) (hwt : (d.weights P T).all (· ≤ reachBytes) = true) :
    ∃ x, R w ((cs.drop o).take sz) x := by
  subst ho hsz
  obtain ⟨xs, n, rfl, hx, hlen, hxl, hf'⟩ := DataW.trod_struct hT hd
  have h1 := hf' j f hf
  have hj : j < xs.length := by rw [hxl]; exact (Array.getElem?_eq_some_iff.1 hf).1
  rw [List.getElem?_eq_getElem hj] at h1
  simp only [Prod.mk.injEq] at hx
  obtain ⟨rfl, _⟩ := hx
  refine O H enc w n _ xs[j].1 xs[j].2 h1 ?_
  refine List.all_eq_true.2 fun k hk => List.all_eq_true.1 hwt k ?_
  simp only [DataW.weights, hT]
  exact DataW.weights_mem_each (j := j) (t := f.type) (d := xs[j].1) (by simp [hf]) (by simp [List.getElem?_eq_getElem hj]) k hk
theorem trod_struct_len {P : Program} {T : TypeId} {fs : Array Field} (hT : P.underlying T = some (.struct fs)) {H : Type} {enc : TypeId × Value → H} {w : World} {fuel : Nat} {cs : List Value} {x : DataW H × List MemPlace}
    (hd : DataW.trod enc P w 0 (fun _ => true) true fuel T cs = some x) : cs.length = P.cellsOf T := by
  obtain ⟨xs, n, rfl, hx, hlen, _⟩ := DataW.trod_struct hT hd
  exact hlen
theorem open_arg_struct {α H : Type} {enc : TypeId × Value → H} {P : Program} {W : World} {T : TypeId} {fs : Array Field} {r : Reach} {base : Nat} {R : Rd α} {v : Value} {d : DataW H} {p : List MemPlace} (hT : P.underlying T = some (.struct fs)) (O : Opens P T R) (hv : Value.okWide P W r base T v)
    (h : DataW.Trod enc P W 0 (fun _ => true) true T v d p) (hw : (d.weights P T).all (· ≤ reachBytes) = true) : ∃ x cs, v = .agg cs ∧ R W cs.toList x := by
  obtain ⟨cs, rfl, _⟩ := okWide_struct hT hv
  obtain ⟨fuel, hf⟩ := h
  obtain ⟨x, hx⟩ := O H enc W fuel _ d p hf hw
  exact ⟨x, cs, rfl, by simpa [Value.cells] using hx⟩

def u64ok (n : Nat) : Prop := n < 18446744073709551616
/-- how the cells of a node read -/
def rAN : Rd AN := fun w cs x => ∃ vt, cs = [.int .u64 x.need, .int .u64 x.ban, .int .u64 x.inn, vt] ∧ u64ok x.need ∧ u64ok x.ban ∧ u64ok x.inn ∧ rSl 1 8 (rInt .i64) w [vt] x.to
def rAU : Rd AU := fun w cs x => ∃ vi vn, cs = [.int .i64 x.sets, vi, vn] ∧ (-9223372036854775808 ≤ x.sets ∧ x.sets ≤ 9223372036854775807) ∧ rSl 1 8 (rInt .i64) w [vi] x.init ∧ rSl 4 48 rAN w [vn] x.nodes

theorem opens_ints : Opens Try.prog 22 (rSl 1 8 (rInt .i64)) := opens_slice Try.underlying22 (by kernel_rfl) (by kernel_rfl) (by decide) (opens_int Try.underlying3)
theorem list4 {α : Type} {l : List α} (h : l.length = 4) : ∃ a b c d, l = [a, b, c, d] := by
  match l, h with
  | [a, b, c, d], _ => exact ⟨a, b, c, d, rfl⟩
theorem list3 {α : Type} {l : List α} (h : l.length = 3) : ∃ a b c, l = [a, b, c] := by
  match l, h with
  | [a, b, c], _ => exact ⟨a, b, c, rfl⟩
theorem u64_nat {n : Int} (h : (Lit.int .u64 n).wf = true) : ∃ m : Nat, n = (m : Int) ∧ u64ok m := by
  have := range_u64 h
  exact ⟨n.toNat, by omega, by unfold u64ok; omega⟩
theorem opens_AN : Opens Try.prog 75 rAN := by
  intro H enc w fuel cs d ps hd hwt
  have hl := trod_struct_len Try.underlying75 hd
  have hc : Try.prog.cellsOf 75 = 4 := by kernel_rfl
  obtain ⟨c0, c1, c2, c3, rfl⟩ := list4 (hl.trans hc)
  obtain ⟨x0, h0⟩ := opens_field Try.underlying75 0 0 1 _ rfl rfl (by kernel_rfl) (opens_int Try.underlying73) hd hwt
  obtain ⟨x1, h1⟩ := opens_field Try.underlying75 1 1 1 _ rfl rfl (by kernel_rfl) (opens_int Try.underlying73) hd hwt
  obtain ⟨x2, h2⟩ := opens_field Try.underlying75 2 2 1 _ rfl rfl (by kernel_rfl) (opens_int Try.underlying73) hd hwt
  obtain ⟨x3, h3⟩ := opens_field Try.underlying75 3 3 1 _ rfl rfl (by kernel_rfl) opens_ints hd hwt
  simp only [List.drop_zero, List.drop_succ_cons, List.take_succ_cons, List.take_zero, rInt, List.cons.injEq, and_true] at h0 h1 h2 h3
  obtain ⟨rfl, w0⟩ := h0
  obtain ⟨rfl, w1⟩ := h1
  obtain ⟨rfl, w2⟩ := h2
  obtain ⟨m0, rfl, b0⟩ := u64_nat w0
  obtain ⟨m1, rfl, b1⟩ := u64_nat w1
  obtain ⟨m2, rfl, b2⟩ := u64_nat w2
  exact ⟨⟨m0, m1, m2, x3⟩, c3, rfl, b0, b1, b2, h3⟩
theorem opens_nodes : Opens Try.prog 28 (rSl 4 48 rAN) := opens_slice Try.underlying28 (by kernel_rfl) (by kernel_rfl) (by decide) opens_AN
theorem opens_AU : Opens Try.prog 30 rAU := by
  intro H enc w fuel cs d ps hd hwt
  have hl := trod_struct_len Try.underlying30 hd
  have hc : Try.prog.cellsOf 30 = 3 := by kernel_rfl
  obtain ⟨c0, c1, c2, rfl⟩ := list3 (hl.trans hc)
  obtain ⟨x0, h0⟩ := opens_field Try.underlying30 0 0 1 _ rfl rfl (by kernel_rfl) (opens_int Try.underlying3) hd hwt
  obtain ⟨x1, h1⟩ := opens_field Try.underlying30 1 1 1 _ rfl rfl (by kernel_rfl) opens_ints hd hwt
  obtain ⟨x2, h2⟩ := opens_field Try.underlying30 2 2 1 _ rfl rfl (by kernel_rfl) opens_nodes hd hwt
  simp only [List.drop_zero, List.drop_succ_cons, List.take_succ_cons, List.take_zero, rInt, List.cons.injEq, and_true] at h0 h1 h2
  obtain ⟨rfl, w0⟩ := h0
  exact ⟨⟨x0, x1, x2⟩, c1, c2, rfl, range_i64 w0, h1, h2⟩

/-! automata in memory -/
/-- a node lies at a place -/
def NodeAt (w : World) (b off : Nat) (x : AN) : Prop :=
  w.cell? ⟨b, off, none⟩ = some (.int .u64 x.need) ∧ w.cell? ⟨b, off + 1, none⟩ = some (.int .u64 x.ban) ∧ w.cell? ⟨b, off + 2, none⟩ = some (.int .u64 x.inn) ∧
    ∃ a c, w.cell? ⟨b, off + 3, none⟩ = some (.slice a x.to.length c) ∧ NumsAt .i64 w a x.to
def NodesAt (w : World) (a : Option Addr) (xs : List AN) : Prop :=
  0 < xs.length → ∃ b off, a = some ⟨b, off, none⟩ ∧ ∀ i (hi : i < xs.length), NodeAt w b (off + i * 4) xs[i]
theorem NodeAt.below {w w' : World} {b off : Nat} {x : AN} (h : NodeAt w b off x) (hb : Below w.heap.size w w') : NodeAt w' b off x := by
  obtain ⟨h0, h1, h2, a, c, h3, h4⟩ := h
  exact ⟨bcell hb h0, bcell hb h1, bcell hb h2, a, c, bcell hb h3, h4.below hb⟩
theorem NodesAt.below {w w' : World} {a : Option Addr} {xs : List AN} (h : NodesAt w a xs) (hb : Below w.heap.size w w') : NodesAt w' a xs := by
  intro h0
  obtain ⟨b, off, ha, hc⟩ := h h0
  exact ⟨b, off, ha, fun i hi => (hc i hi).below hb⟩
theorem NodesAt.nil (w : World) (a : Option Addr) : NodesAt w a [] := fun h => by simp at h
theorem NodesAt.at {w : World} {a : Option Addr} {xs : List AN} (h : NodesAt w a xs) (i : Nat) (hi : i < xs.length) : ∃ b off, a = some ⟨b, off, none⟩ ∧ NodeAt w b (off + i * 4) xs[i] := by
  obtain ⟨b, off, ha, hc⟩ := h (by omega)
  exact ⟨b, off, ha, hc i hi⟩
theorem NodeAt.lt {w : World} {b off : Nat} {x : AN} (h : NodeAt w b off x) : b < w.heap.size := World.block_lt_of_cell? w _ h.1
/-- an automaton, its fields at hand -/
structure AuAt (w : World) (ai : Option Addr) (ni : Nat) (an : Option Addr) (nn : Nat) (A : AU) : Prop where
  hi : ni = A.init.length
  hn : nn = A.nodes.length
  init : NumsAt .i64 w ai A.init
  nodes : NodesAt w an A.nodes
theorem AuAt.below {w w' : World} {ai an : Option Addr} {ni nn : Nat} {A : AU} (h : AuAt w ai ni an nn A) (hb : Below w.heap.size w w') : AuAt w' ai ni an nn A :=
  ⟨h.hi, h.hn, h.init.below hb, h.nodes.below hb⟩
/-- the bounds that an argument brings along -/
structure AuOk (A : AU) : Prop where
  sets : -9223372036854775808 ≤ A.sets ∧ A.sets ≤ 9223372036854775807
  init : ∀ x ∈ A.init, -9223372036854775808 ≤ x ∧ x ≤ 9223372036854775807
  initL : A.init.length ≤ 17592186043904
  nodesL : A.nodes.length ≤ 17592186043904
  nodes : ∀ x ∈ A.nodes, x.need < 18446744073709551616 ∧ x.ban < 18446744073709551616 ∧ x.inn < 18446744073709551616 ∧ x.to.length ≤ 17592186043904 ∧ ∀ t ∈ x.to, -9223372036854775808 ≤ t ∧ t ≤ 9223372036854775807
theorem NodesAt.of_rSl {w : World} {v : Value} {xs : List AN} (h : rSl 4 48 rAN w [v] xs) : ∃ a cap, v = .slice a xs.length cap ∧ xs.length * 48 ≤ 140737488351232 ∧ xs.length ≤ cap ∧ NodesAt w a xs ∧
    ∀ x ∈ xs, x.need < 18446744073709551616 ∧ x.ban < 18446744073709551616 ∧ x.inn < 18446744073709551616 ∧ x.to.length ≤ 17592186043904 ∧ ∀ t ∈ x.to, -9223372036854775808 ≤ t ∧ t ≤ 9223372036854775807 := by
  obtain ⟨a, cap, h1, h2, h3, h4, h5⟩ := h
  have one : ∀ {vs : List Value} {x : AN}, rAN w vs x → x.need < 18446744073709551616 ∧ x.ban < 18446744073709551616 ∧ x.inn < 18446744073709551616 ∧ x.to.length ≤ 17592186043904 ∧ ∀ t ∈ x.to, -9223372036854775808 ≤ t ∧ t ≤ 9223372036854775807 := by
    rintro vs x ⟨vt, _, b0, b1, b2, hs⟩
    obtain ⟨a, c, _, hl, _, _, hw⟩ := NumsAt.of_rSl hs
    exact ⟨b0, b1, b2, by omega, fun t ht => range_i64 (hw.out t ht)⟩
  refine ⟨a, cap, by simpa using h1, h2, h3, fun h0 => ?_, fun x hx => ?_⟩
  · obtain ⟨b, off, ha, hc⟩ := h5 h0
    refine ⟨b, off, ha, fun i hi => ?_⟩
    obtain ⟨vs, hl, hv, vt, rfl, b0, b1, b2, hs⟩ := hc i hi
    obtain ⟨a', c', rfl, _, _, hN, _⟩ := NumsAt.of_rSl hs
    exact ⟨hv 0 (by omega), hv 1 (by omega), hv 2 (by omega), a', c', hv 3 (by omega), hN⟩
  · obtain ⟨i, hi, rfl⟩ := List.mem_iff_getElem.1 hx
    obtain ⟨b, off, ha, hc⟩ := h5 (by omega)
    obtain ⟨vs, hl, hv, hr⟩ := hc i hi
    exact one hr
theorem AuAt.of_rAU {w : World} {cs : List Value} {A : AU} (h : rAU w cs A) : ∃ ai ci an cn, cs = [.int .i64 A.sets, .slice ai A.init.length ci, .slice an A.nodes.length cn] ∧ AuAt w ai A.init.length an A.nodes.length A ∧ AuOk A ∧ A.init.length ≤ ci ∧ A.nodes.length ≤ cn := by
  obtain ⟨vi, vn, rfl, hs, hi, hn⟩ := h
  obtain ⟨ai, ci, rfl, li, lci, hI, wI⟩ := NumsAt.of_rSl hi
  obtain ⟨an, cn, rfl, ln, lcn, hN, wN⟩ := NodesAt.of_rSl hn
  exact ⟨ai, ci, an, cn, rfl, ⟨rfl, rfl, hI, hN⟩, ⟨hs, fun x hx => range_i64 (wI.out x hx), by omega, by omega, wN⟩, lci, lcn⟩
end Go.Proofs.Ytmlbjfaofppikaa
