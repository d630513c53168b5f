/- Automata in memory, and how an argument that is one is opened. No conditions. Whether an automaton may be: auto.Check. Conditions: the bounds that an argument brings along. auto.Check. Conditions: the bounds that an argument brings along. The document's Check of automata. Conditions: the bounds that an argument brings along. -/
import Derived.Test.YtjacphcnanopjaaDoorBase
import Derived.Laws.ShiftsVar
namespace Go.Proofs.YtjacphcnanopjaaDoor
open Go.RowKit Go.ChangeShapes Go.WideShapes Go.ChangeAt

/-- a node of an automaton -/
structure AN where
  need : Nat
  ban : Nat
  inn : Nat
  to : List Int
deriving DecidableEq, Inhabited
/-- an automaton -/
structure AU where
  sets : Int
  init : List Int
  nodes : List AN
deriving DecidableEq, Inhabited

/-- the cells of one field -/
theorem opens_field {α : Type} {P : Program} {T : TypeId} {fs : Array Field} {R : Rd α} (hT : P.underlying T = some (.struct fs)) (j o sz : Nat) (f : Field) (hf : fs[j]? = some f) (ho : f.offset = o) (hsz : P.cellsOf f.type = sz) (O : Opens P f.type R)
    {H : Type} {enc : TypeId × Value → H} {w : World} {fuel : Nat} {cs : List Value} {d : DataW H} {ps : List MemPlace}
    (hd : DataW.trod enc P w 0 (fun _ => true) true fuel T cs = some (d, ps)) (hwt : (d.weights P T).all (· ≤ reachBytes) = true) :
    ∃ x, R w ((cs.drop o).take sz) x := by
  subst ho hsz
  obtain ⟨xs, n, rfl, hx, hlen, hxl, hf'⟩ := DataW.trod_struct hT hd
  have h1 := hf' j f hf
  have hj : j < xs.length := by rw [hxl]; exact (Array.getElem?_eq_some_iff.1 hf).1
  rw [List.getElem?_eq_getElem hj] at h1
  simp only [Prod.mk.injEq] at hx
  obtain ⟨rfl, _⟩ := hx
  refine O H enc w n _ xs[j].1 xs[j].2 h1 ?_
  refine List.all_eq_true.2 fun k hk => List.all_eq_true.1 hwt k ?_
  simp only [DataW.weights, hT]
  exact DataW.weights_mem_each (j := j) (t := f.type) (d := xs[j].1) (by simp [hf]) (by simp [List.getElem?_eq_getElem hj]) k hk
theorem trod_struct_len {P : Program} {T : TypeId} {fs : Array Field} (hT : P.underlying T = some (.struct fs)) {H : Type} {enc : TypeId × Value → H} {w : World} {fuel : Nat} {cs : List Value} {x : DataW H × List MemPlace}
    (hd : DataW.trod enc P w 0 (fun _ => true) true fuel T cs = some x) : cs.length = P.cellsOf T := by
  obtain ⟨xs, n, rfl, hx, hlen, _⟩ := DataW.trod_struct hT hd
  exact hlen
theorem open_arg_struct {α H : Type} {enc : TypeId × Value → H} {P : Program} {W : World} {T : TypeId} {fs : Array Field} {r : Reach} {base : Nat} {R : Rd α} {v : Value} {d : DataW H} {p : List MemPlace} (hT : P.underlying T = some (.struct fs)) (O : Opens P T R) (hv : Value.okWide P W r base T v)
    (h : DataW.Trod enc P W 0 (fun _ => true) true T v d p) (hw : (d.weights P T).all (· ≤ reachBytes) = true) : ∃ x cs, v = .agg cs ∧ R W cs.toList x := by
  obtain ⟨cs, rfl, _⟩ := okWide_struct hT hv
  obtain ⟨fuel, hf⟩ := h
  obtain ⟨x, hx⟩ := O H enc W fuel _ d p hf hw
  exact ⟨x, cs, rfl, by simpa [Value.cells] using hx⟩

def u64ok (n : Nat) : Prop := n < 18446744073709551616
/-- how the cells of a node read -/
def rAN : Rd AN := fun w cs x => ∃ vt, cs = [.int .u64 x.need, .int .u64 x.ban, .int .u64 x.inn, vt] ∧ u64ok x.need ∧ u64ok x.ban ∧ u64ok x.inn ∧ rSl 1 8 (rInt .i64) w [vt] x.to
def rAU : Rd AU := fun w cs x => ∃ vi vn, cs = [.int .i64 x.sets, vi, vn] ∧ (-9223372036854775808 ≤ x.sets ∧ x.sets ≤ 9223372036854775807) ∧ rSl 1 8 (rInt .i64) w [vi] x.init ∧ rSl 4 48 rAN w [vn] x.nodes

theorem opens_ints : Opens Tryd.prog 22 (rSl 1 8 (rInt .i64)) := opens_slice Tryd.underlying22 (by kernel_rfl) (by kernel_rfl) (by decide) (opens_int Tryd.underlying3)
theorem list4 {α : Type} {l : List α} (h : l.length = 4) : ∃ a b c d, l = [a, b, c, d] := by
  match l, h with
  | [a, b, c, d], _ => exact ⟨a, b, c, d, rfl⟩
theorem list3 {α : Type} {l : List α} (h : l.length = 3) : ∃ a b c, l = [a, b, c] := by
  match l, h with
  | [a, b, c], _ => exact ⟨a, b, c, rfl⟩
theorem u64_nat {n : Int} (h : (Lit.int .u64 n).wf = true) : ∃ m : Nat, n = (m : Int) ∧ u64ok m := by
  have := range_u64 h
  exact ⟨n.toNat, by omega, by unfold u64ok; omega⟩
theorem opens_AN : Opens Tryd.prog 38 rAN := by
  intro H enc w fuel cs d ps hd hwt
  have hl := trod_struct_len Tryd.underlying38 hd
  have hc : Tryd.prog.cellsOf 38 = 4 := by kernel_rfl
  obtain ⟨c0, c1, c2, c3, rfl⟩ := list4 (hl.trans hc)
  obtain ⟨x0, h0⟩ := opens_field Tryd.underlying38 0 0 1 _ rfl rfl (by kernel_rfl) (opens_int Tryd.underlying36) hd hwt
  obtain ⟨x1, h1⟩ := opens_field Tryd.underlying38 1 1 1 _ rfl rfl (by kernel_rfl) (opens_int Tryd.underlying36) hd hwt
  obtain ⟨x2, h2⟩ := opens_field Tryd.underlying38 2 2 1 _ rfl rfl (by kernel_rfl) (opens_int Tryd.underlying36) hd hwt
  obtain ⟨x3, h3⟩ := opens_field Tryd.underlying38 3 3 1 _ rfl rfl (by kernel_rfl) opens_ints hd hwt
  simp only [List.drop_zero, List.drop_succ_cons, List.take_succ_cons, List.take_zero, rInt, List.cons.injEq, and_true] at h0 h1 h2 h3
  obtain ⟨rfl, w0⟩ := h0
  obtain ⟨rfl, w1⟩ := h1
  obtain ⟨rfl, w2⟩ := h2
  obtain ⟨m0, rfl, b0⟩ := u64_nat w0
  obtain ⟨m1, rfl, b1⟩ := u64_nat w1
  obtain ⟨m2, rfl, b2⟩ := u64_nat w2
  exact ⟨⟨m0, m1, m2, x3⟩, c3, rfl, b0, b1, b2, h3⟩
theorem opens_nodes : Opens Tryd.prog 23 (rSl 4 48 rAN) := opens_slice Tryd.underlying23 (by kernel_rfl) (by kernel_rfl) (by decide) opens_AN
theorem opens_AU : Opens Tryd.prog 25 rAU := by
  intro H enc w fuel cs d ps hd hwt
  have hl := trod_struct_len Tryd.underlying25 hd
  have hc : Tryd.prog.cellsOf 25 = 3 := by kernel_rfl
  obtain ⟨c0, c1, c2, rfl⟩ := list3 (hl.trans hc)
  obtain ⟨x0, h0⟩ := opens_field Tryd.underlying25 0 0 1 _ rfl rfl (by kernel_rfl) (opens_int Tryd.underlying3) hd hwt
  obtain ⟨x1, h1⟩ := opens_field Tryd.underlying25 1 1 1 _ rfl rfl (by kernel_rfl) opens_ints hd hwt
  obtain ⟨x2, h2⟩ := opens_field Tryd.underlying25 2 2 1 _ rfl rfl (by kernel_rfl) opens_nodes hd hwt
  simp only [List.drop_zero, List.drop_succ_cons, List.take_succ_cons, List.take_zero, rInt, List.cons.injEq, and_true] at h0 h1 h2
  obtain ⟨rfl, w0⟩ := h0
  exact ⟨⟨x0, x1, x2⟩, c1, c2, rfl, range_i64 w0, h1, h2⟩

/-! automata in memory -/
/-- a node lies at a place -/
def NodeAt (w : World) (b off : Nat) (x : AN) : Prop :=
  w.cell? ⟨b, off, none⟩ = some (.int .u64 x.need) ∧ w.cell? ⟨b, off + 1, none⟩ = some (.int .u64 x.ban) ∧ w.cell? ⟨b, off + 2, none⟩ = some (.int .u64 x.inn) ∧
    ∃ a c, w.cell? ⟨b, off + 3, none⟩ = some (.slice a x.to.length c) ∧ NumsAt .i64 w a x.to
def NodesAt (w : World) (a : Option Addr) (xs : List AN) : Prop :=
  0 < xs.length → ∃ b off, a = some ⟨b, off, none⟩ ∧ ∀ i (hi : i < xs.length), NodeAt w b (off + i * 4) xs[i]
theorem NodeAt.below {w w' : World} {b off : Nat} {x : AN} (h : NodeAt w b off x) (hb : Below w.heap.size w w') : NodeAt w' b off x := by
  obtain ⟨h0, h1, h2, a, c, h3, h4⟩ := h
  exact ⟨bcell hb h0, bcell hb h1, bcell hb h2, a, c, bcell hb h3, h4.below hb⟩
theorem NodesAt.below {w w' : World} {a : Option Addr} {xs : List AN} (h : NodesAt w a xs) (hb : Below w.heap.size w w') : NodesAt w' a xs := by
  intro h0
  obtain ⟨b, off, ha, hc⟩ := h h0
  exact ⟨b, off, ha, fun i hi => (hc i hi).below hb⟩
theorem NodesAt.nil (w : World) (a : Option Addr) : NodesAt w a [] := fun h => by simp at h
theorem NodesAt.at {w : World} {a : Option Addr} {xs : List AN} (h : NodesAt w a xs) (i : Nat) (hi : i < xs.length) : ∃ b off, a = some ⟨b, off, none⟩ ∧ NodeAt w b (off + i * 4) xs[i] := by
  obtain ⟨b, off, ha, hc⟩ := h (by omega)
  exact ⟨b, off, ha, hc i hi⟩
theorem NodeAt.lt {w : World} {b off : Nat} {x : AN} (h : NodeAt w b off x) : b < w.heap.size := World.block_lt_of_cell? w _ h.1
/-- an automaton, its fields at hand -/
structure AuAt (w : World) (ai : Option Addr) (ni : Nat) (an : Option Addr) (nn : Nat) (A : AU) : Prop where
  hi : ni = A.init.length
  hn : nn = A.nodes.length
  init : NumsAt .i64 w ai A.init
  nodes : NodesAt w an A.nodes
theorem AuAt.below {w w' : World} {ai an : Option Addr} {ni nn : Nat} {A : AU} (h : AuAt w ai ni an nn A) (hb : Below w.heap.size w w') : AuAt w' ai ni an nn A :=
  ⟨h.hi, h.hn, h.init.below hb, h.nodes.below hb⟩
/-- the bounds that an argument brings along -/
structure AuOk (A : AU) : Prop where
  sets : -9223372036854775808 ≤ A.sets ∧ A.sets ≤ 9223372036854775807
  init : ∀ x ∈ A.init, -9223372036854775808 ≤ x ∧ x ≤ 9223372036854775807
  initL : A.init.length ≤ 17592186043904
  nodesL : A.nodes.length ≤ 17592186043904
  nodes : ∀ x ∈ A.nodes, x.need < 18446744073709551616 ∧ x.ban < 18446744073709551616 ∧ x.inn < 18446744073709551616 ∧ x.to.length ≤ 17592186043904 ∧ ∀ t ∈ x.to, -9223372036854775808 ≤ t ∧ t ≤ 9223372036854775807
theorem NodesAt.of_rSl {w : World} {v : Value} {xs : List AN} (h : rSl 4 48 rAN w [v] xs) : ∃ a cap, v = .slice a xs.length cap ∧ xs.length * 48 ≤ 140737488351232 ∧ xs.length ≤ cap ∧ NodesAt w a xs ∧
    ∀ x ∈ xs, x.need < 18446744073709551616 ∧ x.ban < 18446744073709551616 ∧ x.inn < 18446744073709551616 ∧ x.to.length ≤ 17592186043904 ∧ ∀ t ∈ x.to, -9223372036854775808 ≤ t ∧ t ≤ 9223372036854775807 := by
  obtain ⟨a, cap, h1, h2, h3, h4, h5⟩ := h
  have one : ∀ {vs : List Value} {x : AN}, rAN w vs x → x.need < 18446744073709551616 ∧ x.ban < 18446744073709551616 ∧ x.inn < 18446744073709551616 ∧ x.to.length ≤ 17592186043904 ∧ ∀ t ∈ x.to, -9223372036854775808 ≤ t ∧ t ≤ 9223372036854775807 := by
    rintro vs x ⟨vt, _, b0, b1, b2, hs⟩
    obtain ⟨a, c, _, hl, _, _, hw⟩ := NumsAt.of_rSl hs
    exact ⟨b0, b1, b2, by omega, fun t ht => range_i64 (hw.out t ht)⟩
  refine ⟨a, cap, by simpa using h1, h2, h3, fun h0 => ?_, fun x hx => ?_⟩
  · obtain ⟨b, off, ha, hc⟩ := h5 h0
    refine ⟨b, off, ha, fun i hi => ?_⟩
    obtain ⟨vs, hl, hv, vt, rfl, b0, b1, b2, hs⟩ := hc i hi
    obtain ⟨a', c', rfl, _, _, hN, _⟩ := NumsAt.of_rSl hs
    exact ⟨hv 0 (by omega), hv 1 (by omega), hv 2 (by omega), a', c', hv 3 (by omega), hN⟩
  · obtain ⟨i, hi, rfl⟩ := List.mem_iff_getElem.1 hx
    obtain ⟨b, off, ha, hc⟩ := h5 (by omega)
    obtain ⟨vs, hl, hv, hr⟩ := hc i hi
    exact one hr
theorem AuAt.of_rAU {w : World} {cs : List Value} {A : AU} (h : rAU w cs A) : ∃ ai ci an cn, cs = [.int .i64 A.sets, .slice ai A.init.length ci, .slice an A.nodes.length cn] ∧ AuAt w ai A.init.length an A.nodes.length A ∧ AuOk A ∧ A.init.length ≤ ci ∧ A.nodes.length ≤ cn := by
  obtain ⟨vi, vn, rfl, hs, hi, hn⟩ := h
  obtain ⟨ai, ci, rfl, li, lci, hI, wI⟩ := NumsAt.of_rSl hi
  obtain ⟨an, cn, rfl, ln, lcn, hN, wN⟩ := NodesAt.of_rSl hn
  exact ⟨ai, ci, an, cn, rfl, ⟨rfl, rfl, hI, hN⟩, ⟨hs, fun x hx => range_i64 (wI.out x hx), by omega, by omega, wN⟩, lci, lcn⟩
end Go.Proofs.YtjacphcnanopjaaDoor

namespace Go.Proofs.YtjacphcnanopjaaDoor
open Go.RowKit

theorem RowAt.grow {w w' : World} {B T : Nat} {l : List Value} {row : Option Nat} (h : RowAt w B T l) (hg : w.grownBy w' row) (hne : row ≠ some B) : RowAt w' B T l := h.keep (hg.block B h.lt (fun e => hne e.symm))
theorem RowAt.drewN {w : World} {B T : Nat} {l : List Value} (h : RowAt w B T l) (n : Nat) : RowAt (w.drewN n) B T l := h
theorem RowAt.alloc {w : World} {B T : Nat} {l : List Value} (h : RowAt w B T l) (o : Obj) : RowAt (w.alloc o) B T l := h.below ((Below.refl _ _).alloc (Nat.le_refl _) o)
theorem bset {w w1 : World} {n j : Nat} {v : Value} (h : Below w.heap.size w w1) (hn : w.heap.size ≤ n) : Below w.heap.size w (w1.setCell ⟨n, j, none⟩ v) := h.setCell (by exact hn) v
theorem bold {W w1 : World} (hb : Below W.heap.size W w1) : (∀ b o, b < W.heap.size → w1.cell? ⟨b, o, none⟩ = W.cell? ⟨b, o, none⟩) ∧ (∀ b o, b < W.heap.size → w1.frozen? ⟨b, o, none⟩ = W.frozen? ⟨b, o, none⟩) :=
  ⟨fun b o h => hb.cell (p := ⟨b, o, none⟩) h, fun b o h => hb.frozen (p := ⟨b, o, none⟩) h⟩

/-- a number that is no node's -/
def outB (n : Nat) (x : Int) : Bool := decide (x < 0) || decide ((n : Int) ≤ x)
/-- the first fault of nodes -/
def chkN (n : Nat) (s : Nat) : List AN → Int
  | [] => 0
  | x :: l => if x.to.any (outB n) then 10 else if x.inn / 2 ^ s ≠ 0 then 3 else chkN n s l
/-- whether an automaton may be -/
def chk (A : AU) : Int :=
  if 256 < A.nodes.length ∨ 16 < A.sets then 11 else if A.sets < 0 then 10 else if A.init.any (outB A.nodes.length) then 10 else chkN A.nodes.length A.sets.toNat A.nodes

theorem out_any (w : World) (b : Nat) (n : Nat) (x : Int) (hc : w.cell? ⟨b, 0, none⟩ = some (.int .i64 n)) :
    Calls Tryd.prog 31 #[.int .i64 x, .pointer (some ⟨b, 0, none⟩)] w fun e w' => e = .returned (.bool (outB n x)) ∧ w = w' := by
  by_cases h : x < 0
  · have hr : Hid (outB n x = true) := by show _ = _; unfold outB; rw [decide_eq_true h]; rfl
    rw [hr.out]
    go_enter Tryd.func31, Tryd.ntmps31
    go_wp2
    go_ret
    exact ⟨rfl, rfl⟩
  · have h' : decide (x < 0) = false := decide_eq_false h
    have hr : Hid (outB n x = decide ((n : Int) ≤ x)) := by show _ = _; unfold outB; rw [h']; rfl
    rw [hr.out]
    go_enter Tryd.func31, Tryd.ntmps31
    go_wp2
    go_ret
    exact ⟨rfl, rfl⟩

theorem idxout_any (w : World) (a : Option Addr) (c b : Nat) (n : Nat) (xs : List Int) (h1 : NumsAt .i64 w a xs) (hl : xs.length ≤ 9223372036854775807) (hc : w.cell? ⟨b, 0, none⟩ = some (.int .i64 n)) :
    Calls Tryd.prog 50 #[.slice a xs.length c, .func (.func 31) #[] #[.pointer (some ⟨b, 0, none⟩)]] w fun e w' => ∃ k : Int, e = .returned (.int .i64 k) ∧ Hid (decide (0 ≤ k) = xs.any (outB n)) ∧ Quiet w w' := by
  have C := Lib.hid (fun m x => out_any (w.drewN m) b n x hc)
  go_enter Tryd.func50, Tryd.ntmps50
  clear hc
  go_wp2
  go_loopw [8] (fun i wr => ∃ k m : Nat, k ≤ xs.length ∧ i = .int .i64 k ∧ wr = w.drewN m ∧ Hid ((xs.take k).any (outB n) = false)) (fun i _ => xs.length - (intOf i).toNat)
  case atStart => exact ⟨0, 0, Nat.zero_le _, rfl, rfl, by simp [Hid]⟩
  case round =>
    obtain ⟨k, m, hk, rfl, rfl, hall⟩ := hrel
    by_cases hlt : k < xs.length
    · obtain ⟨bb, off, x, rfl, cx, hx⟩ := (h1.drewN m).at k hlt
      have hx2 : x = xs[k] := by rw [hx.out, List.getD_eq_getElem?_getD, List.getElem?_eq_getElem hlt]; rfl
      have hst : Hid ((xs.take (k + 1)).any (outB n) = outB n x) := by
        show _ = _
        rw [List.take_add_one, List.getElem?_eq_getElem hlt, Option.toList_some, List.any_append, hall.out, ← hx2]
        simp
      clear hx2
      cases ho : outB n x with
      | true =>
        rw [ho] at hst
        have C1 := C.out m x
        rw [ho] at C1
        replace C1 := Lib.hid C1
        clear ho
        go_wp2_with fail
        refine C1.out.mono ?_
        rintro e w9 ⟨rfl, rfl⟩
        go_wp2
        go_ret
        refine ⟨k, rfl, ?_, Quiet.one _ _⟩
        show _ = _
        rw [decide_eq_true (by omega)]
        symm
        rw [List.any_eq_true] 
        have := hst.out
        rw [List.any_eq_true] at this
        obtain ⟨y, hy, hy2⟩ := this
        exact ⟨y, List.mem_of_mem_take hy, hy2⟩
      | false =>
        rw [ho] at hst
        have C1 := C.out m x
        rw [ho] at C1
        replace C1 := Lib.hid C1
        clear ho
        go_wp2_with fail
        refine C1.out.mono ?_
        rintro e w9 ⟨rfl, rfl⟩
        go_wp2
        go_roundw
        case rel => exact ⟨k + 1, m, by omega, by go_num, rfl, hst⟩
        case measure => simp [intOf]; omega
    · obtain rfl : k = xs.length := by omega
      go_wp2
      go_ret
      refine ⟨-1, rfl, ?_, Quiet.one _ _⟩
      show _ = _
      have := hall.out
      rw [List.take_length] at this
      rw [this]
      rfl

theorem hasout_any (w : World) (a : Option Addr) (c b : Nat) (n : Nat) (xs : List Int) (h1 : NumsAt .i64 w a xs) (hl : xs.length ≤ 9223372036854775807) (hc : w.cell? ⟨b, 0, none⟩ = some (.int .i64 n)) :
    Calls Tryd.prog 32 #[.slice a xs.length c, .func (.func 31) #[] #[.pointer (some ⟨b, 0, none⟩)]] w fun e w' => e = .returned (.bool (xs.any (outB n))) ∧ Quiet w w' := by
  have C := Lib.hid (idxout_any w a c b n xs h1 hl hc)
  generalize xs.any (outB n) = r at C
  clear h1 hl hc
  go_enter Tryd.func32, Tryd.ntmps32
  go_wp2_with fail
  refine C.out.mono ?_
  rintro e w1 ⟨k, rfl, hk, m, rfl⟩
  go_wp2
  go_ret
  exact ⟨ret_bool hk.out, Quiet.one _ _⟩
end Go.Proofs.YtjacphcnanopjaaDoor

namespace Go.Proofs.YtjacphcnanopjaaDoor
open Go.RowKit

abbrev AUT : Nat := 25
theorem chkN_cons {n s : Nat} {x : AN} {l : List AN} : chkN n s (x :: l) = if x.to.any (outB n) then 10 else if x.inn / 2 ^ s ≠ 0 then 3 else chkN n s l := rfl
/-- what an automaton's value looks like -/
theorem AuOk.to {A : AU} (h : AuOk A) {x : AN} (hx : x ∈ A.nodes) : x.to.length ≤ 17592186043904 := (h.nodes x hx).2.2.2.1

theorem shr_ne {n s : Nat} : ((n : Int) / 2 ^ s != 0) = decide (n / 2 ^ s ≠ 0) := by
  rw [show (n : Int) / 2 ^ s = ((n / 2 ^ s : Nat) : Int) by push_cast; rfl]
  generalize n / 2 ^ s = m
  by_cases h : m = 0
  · subst h; rfl
  · rw [decide_eq_true h]
    simpa using h
set_option maxHeartbeats 2000000 in
theorem check_any (w : World) (ai an : Option Addr) (ci cn : Nat) (A : AU) (h : AuAt w ai A.init.length an A.nodes.length A) (ok : AuOk A) :
    Calls Tryd.prog 17 #[.agg #[.int .i64 A.sets, .slice ai A.init.length ci, .slice an A.nodes.length cn]] w fun e w' => e = .returned (.int .i64 (chk A)) ∧ Below w.heap.size w w' := by
  obtain ⟨s, init, nodes⟩ := A
  have hi := h.init
  have hn := h.nodes
  have hi1 := ok.initL
  have hn1 := ok.nodesL
  have hs1 := ok.sets
  have hok := Lib.hid ok.nodes
  simp only at hi hn hi1 hn1 hs1 hok ⊢
  clear h ok
  generalize hr : chk ⟨s, init, nodes⟩ = r
  unfold chk at hr
  replace hr := Lib.hid hr
  simp only at hr
  by_cases g1 : 256 < nodes.length
  · have g1' : (256 : Int) < (nodes.length : Int) := by omega
    have hr2 : Hid (r = 11) := by have := hr.out; rw [if_pos (.inl g1)] at this; exact this.symm
    obtain rfl := hr2.out
    clear hr hr2 g1
    go_enter Tryd.func17, Tryd.ntmps17
    go_wp2
    go_ret
    exact ⟨rfl, balloc (balloc (Below.refl _ _) _) _⟩
  have g1' : decide ((256 : Int) < (nodes.length : Int)) = false := by simp; omega
  by_cases g2 : 16 < s
  · have hr2 : Hid (r = 11) := by have := hr.out; rw [if_pos (.inr g2)] at this; exact this.symm
    obtain rfl := hr2.out
    clear hr hr2
    go_enter Tryd.func17, Tryd.ntmps17
    go_wp2
    go_ret
    exact ⟨rfl, balloc (balloc (Below.refl _ _) _) _⟩
  have g2' : decide (16 < s) = false := by simp; omega
  replace hr : Hid ((if s < 0 then 10 else if init.any (outB nodes.length) then 10 else chkN nodes.length s.toNat nodes) = r) := by have := hr.out; rwa [if_neg (by omega)] at this
  by_cases g3 : s < 0
  · have hr2 : Hid (r = 10) := by have := hr.out; rw [if_pos g3] at this; exact this.symm
    obtain rfl := hr2.out
    clear hr hr2
    go_enter Tryd.func17, Tryd.ntmps17
    go_wp2
    go_ret
    exact ⟨rfl, balloc (balloc (Below.refl _ _) _) _⟩
  have g3' : decide (s < 0) = false := by simp; omega
  replace hr : Hid ((if init.any (outB nodes.length) then 10 else chkN nodes.length s.toNat nodes) = r) := by have := hr.out; rwa [if_neg (by omega)] at this
  obtain ⟨sn, rfl⟩ := Int.eq_ofNat_of_zero_le (show 0 ≤ s by omega)
  rw [Int.toNat_natCast] at hr
  have hsn : sn ≤ 16 := by omega
  clear g1 g2 g3
  have hb2 : Below w.heap.size w ((w.alloc (.cells #[.int .i64 sn, .slice ai init.length ci, .slice an nodes.length cn] AUT)).alloc (.cells #[.int .i64 nodes.length] 3)) := balloc (balloc (Below.refl _ _) _) _
  have rA : RowAt ((w.alloc (.cells #[.int .i64 sn, .slice ai init.length ci, .slice an nodes.length cn] AUT)).alloc (.cells #[.int .i64 nodes.length] 3)) w.heap.size AUT [.int .i64 sn, .slice ai init.length ci, .slice an nodes.length cn] := (RowAt.new (w := w) #[.int .i64 sn, .slice ai init.length ci, .slice an nodes.length cn] rfl).alloc _
  have rN : RowAt ((w.alloc (.cells #[.int .i64 sn, .slice ai init.length ci, .slice an nodes.length cn] AUT)).alloc (.cells #[.int .i64 nodes.length] 3)) (w.heap.size + 1) 3 [.int .i64 nodes.length] := RowAt.new #[.int .i64 nodes.length] (by simp)
  have C1 := hasout_any _ ai ci (w.heap.size + 1) nodes.length init (hi.below hb2) (by omega) (rN.cell 0)
  replace hi := Lib.hid hi
  replace hn := Lib.hid hn
  cases hI : init.any (outB nodes.length) with
  | true =>
    rw [hI] at C1
    have hr2 : Hid (r = 10) := by have := hr.out; rw [hI, if_pos rfl] at this; exact this.symm
    obtain rfl := hr2.out
    replace C1 := Lib.hid C1
    clear hr hr2 hI rA rN
    go_enter Tryd.func17, Tryd.ntmps17
    go_wp2_with fail
    refine C1.out.mono ?_
    rintro e w1 ⟨rfl, m, rfl⟩
    go_wp2
    go_ret
    exact ⟨rfl, bdrewN hb2 _⟩
  | false =>
    rw [hI] at C1
    replace hr : Hid (chkN nodes.length sn nodes = r) := by have := hr.out; rwa [hI, if_neg (by simp)] at this
    replace C1 := Lib.hid C1
    clear hI
    go_enter Tryd.func17, Tryd.ntmps17
    go_wp2_with fail
    refine C1.out.mono ?_
    rintro e w1 ⟨rfl, m, rfl⟩
    replace rA := rA.drewN m
    replace rN := rN.drewN m
    replace hb2 := bdrewN hb2 m
    clear C1
    go_wp2
    generalize ((w.alloc (.cells #[.int .i64 sn, .slice ai init.length ci, .slice an nodes.length cn] AUT)).alloc (.cells #[.int .i64 nodes.length] 3)).drewN m = w1 at rA rN hb2 ⊢
    go_loopw [32] (fun iv wr => ∃ k : Nat, k ≤ nodes.length ∧ iv = .int .i64 k ∧ RowAt wr w.heap.size AUT [.int .i64 sn, .slice ai init.length ci, .slice an nodes.length cn] ∧ RowAt wr (w.heap.size + 1) 3 [.int .i64 nodes.length] ∧ Below w.heap.size w wr ∧ Hid (chkN nodes.length sn (nodes.drop k) = r)) (fun iv _ => nodes.length - (intOf iv).toNat)
    case atStart => exact ⟨0, Nat.zero_le _, rfl, rA, rN, hb2, hr⟩
    case round =>
      obtain ⟨k, hk, rfl, sA, sN, hb, hs⟩ := hrel
      clear rA rN hb2 hr
      by_cases hlt : k < nodes.length
      · have hd : nodes.drop k = nodes[k] :: nodes.drop (k + 1) := List.drop_eq_getElem_cons hlt
        have hok1 := hok.out _ (List.getElem_mem hlt)
        obtain ⟨b, off, hab, q0, q1, q2, at_, ct, q3, hto⟩ := (hn.out.below hb).at k hlt
        rw [hd, chkN_cons] at hs
        clear hd
        generalize nodes[k] = x at hs hok1 q0 q1 q2 q3 hto
        obtain ⟨ne, ba, inn, to⟩ := x
        simp only at hs hok1 q0 q1 q2 q3 hto
        obtain ⟨o0, o1, o2, o3, _⟩ := hok1
        have hbb := World.block_lt_of_cell? wr _ q0
        simp only at hbb
        have a0 : wr.cell? ⟨w.heap.size, 0, none⟩ = some (.int .i64 sn) := sA.cell 0
        have nz := sA.lt
        have CT := hasout_any (wr.alloc (.cells #[.int .u64 ne, .int .u64 ba, .int .u64 inn, .slice at_ to.length ct] 38)) at_ ct (w.heap.size + 1) nodes.length to (hto.alloc _) (by omega) ((sN.alloc _).cell 0)
        subst hab
        cases hT : to.any (outB nodes.length) with
        | true =>
          rw [hT] at CT
          have hr2 : Hid (r = 10) := by have := hs.out; rw [hT, if_pos rfl] at this; exact this.symm
          obtain rfl := hr2.out
          replace CT := Lib.hid CT
          clear hr2 hs hT hto
          go_wp2_with fail
          refine CT.out.mono ?_
          rintro e w2 ⟨rfl, m2, rfl⟩
          go_wp2
          go_ret
          exact ⟨rfl, bdrewN (balloc hb _) _⟩
        | false =>
          rw [hT] at CT
          replace hs : Hid ((if inn / 2 ^ sn ≠ 0 then 3 else chkN nodes.length sn (nodes.drop (k + 1))) = r) := by have := hs.out; rwa [hT, if_neg (by simp)] at this
          replace CT := Lib.hid CT
          clear hT hto
          go_wp2_with fail
          refine CT.out.mono ?_
          rintro e w2 ⟨rfl, m2, rfl⟩
          by_cases hz : inn / 2 ^ sn ≠ 0
          · have hq := shr_ne (n := inn) (s := sn)
            rw [decide_eq_true hz] at hq
            have hr2 : Hid (r = 3) := by have := hs.out; rw [if_pos hz] at this; exact this.symm
            obtain rfl := hr2.out
            clear hr2 hs hz
            go_wp2
            go_ret
            exact ⟨rfl, bdrewN (balloc hb _) _⟩
          · have hq := shr_ne (n := inn) (s := sn)
            rw [decide_eq_false hz] at hq
            replace hs : Hid (chkN nodes.length sn (nodes.drop (k + 1)) = r) := by have := hs.out; rwa [if_neg hz] at this
            clear hz
            go_wp2
            go_roundw
            case rel => exact ⟨k + 1, by omega, by go_num, (sA.alloc _).drewN _, (sN.alloc _).drewN _, bdrewN (balloc hb _) _, hs⟩
            case measure => simp [intOf]; omega
      · obtain rfl : k = nodes.length := by omega
        have hr2 : Hid (r = 0) := by have := hs.out; rw [List.drop_length] at this; exact this.symm
        obtain rfl := hr2.out
        clear hr2 hs
        go_wp2
        go_ret
        exact ⟨rfl, hb⟩
end Go.Proofs.YtjacphcnanopjaaDoor

namespace Go.Proofs.YtjacphcnanopjaaDoor
open Go.RowKit

theorem any_snoc {p : Int → Bool} {xs : List Int} {k : Nat} (hk : k < xs.length) (h : (xs.take k).any p = false) : (xs.take (k + 1)).any p = p xs[k] := by
  rw [List.take_add_one, List.getElem?_eq_getElem hk, Option.toList_some, List.any_append, h]
  simp
theorem any_of_take {p : Int → Bool} {xs : List Int} {k : Nat} (h : (xs.take k).any p = true) : xs.any p = true := by
  rw [List.any_eq_true] at h ⊢
  obtain ⟨y, hy, hy2⟩ := h
  exact ⟨y, List.mem_of_mem_take hy, hy2⟩

set_option maxHeartbeats 4000000 in
theorem rcheck_any (w : World) (ai an : Option Addr) (ci cn : Nat) (A : AU) (h : AuAt w ai A.init.length an A.nodes.length A) (ok : AuOk A) :
    Calls Tryd.prog 15 #[.agg #[.int .i64 A.sets, .slice ai A.init.length ci, .slice an A.nodes.length cn]] w fun e w' => e = .returned (.int .i64 (chk A)) ∧ Below w.heap.size w w' := by
  obtain ⟨s, init, nodes⟩ := A
  have hi := h.init
  have hn := h.nodes
  have hi1 := ok.initL
  have hn1 := ok.nodesL
  have hs1 := ok.sets
  have hok := Lib.hid ok.nodes
  simp only at hi hn hi1 hn1 hs1 hok ⊢
  clear h ok
  generalize hr : chk ⟨s, init, nodes⟩ = r
  unfold chk at hr
  replace hr := Lib.hid hr
  simp only at hr
  by_cases g1 : 256 < nodes.length
  · have g1' : (256 : Int) < (nodes.length : Int) := by omega
    have hr2 : Hid (r = 11) := by have := hr.out; rw [if_pos (.inl g1)] at this; exact this.symm
    obtain rfl := hr2.out
    clear hr hr2 g1
    go_enter Tryd.func15, Tryd.ntmps15
    go_wp2
    go_ret
    exact ⟨rfl, balloc (Below.refl _ _) _⟩
  have g1' : decide ((256 : Int) < (nodes.length : Int)) = false := by simp; omega
  by_cases g2 : 16 < s
  · have hr2 : Hid (r = 11) := by have := hr.out; rw [if_pos (.inr g2)] at this; exact this.symm
    obtain rfl := hr2.out
    clear hr hr2
    go_enter Tryd.func15, Tryd.ntmps15
    go_wp2
    go_ret
    exact ⟨rfl, balloc (Below.refl _ _) _⟩
  have g2' : decide (16 < s) = false := by simp; omega
  replace hr : Hid ((if s < 0 then 10 else if init.any (outB nodes.length) then 10 else chkN nodes.length s.toNat nodes) = r) := by have := hr.out; rwa [if_neg (by omega)] at this
  by_cases g3 : s < 0
  · have hr2 : Hid (r = 10) := by have := hr.out; rw [if_pos g3] at this; exact this.symm
    obtain rfl := hr2.out
    clear hr hr2
    go_enter Tryd.func15, Tryd.ntmps15
    go_wp2
    go_ret
    exact ⟨rfl, balloc (Below.refl _ _) _⟩
  have g3' : decide (s < 0) = false := by simp; omega
  replace hr : Hid ((if init.any (outB nodes.length) then 10 else chkN nodes.length s.toNat nodes) = r) := by have := hr.out; rwa [if_neg (by omega)] at this
  obtain ⟨sn, rfl⟩ := Int.eq_ofNat_of_zero_le (show 0 ≤ s by omega)
  rw [Int.toNat_natCast] at hr
  have hsn : sn ≤ 16 := by omega
  clear g1 g2 g3
  have rA : RowAt (w.alloc (.cells #[.int .i64 sn, .slice ai init.length ci, .slice an nodes.length cn] AUT)) w.heap.size AUT [.int .i64 sn, .slice ai init.length ci, .slice an nodes.length cn] := RowAt.new (w := w) #[.int .i64 sn, .slice ai init.length ci, .slice an nodes.length cn] rfl
  have hb0 : Below w.heap.size w (w.alloc (.cells #[.int .i64 sn, .slice ai init.length ci, .slice an nodes.length cn] AUT)) := balloc (Below.refl _ _) _
  have HB := Lib.hid (fun m => bdrewN hb0 m)
  have hi := hi.below hb0
  have hn := hn.below hb0
  have hwl := rA.lt
  replace hi := Lib.hid hi
  replace hn := Lib.hid hn
  go_enter Tryd.func15, Tryd.ntmps15
  clear hb0
  go_wp2
  have HW : ∃ w1, w1 = w.alloc (.cells #[.int .i64 sn, .slice ai init.length ci, .slice an nodes.length cn] AUT) := ⟨_, rfl⟩
  obtain ⟨w1, hw1⟩ := HW
  rw [← hw1] at rA HB hi hn hwl
  change Code.wp _ _ _ _ (w.alloc (.cells #[.int .i64 sn, .slice ai init.length ci, .slice an nodes.length cn] AUT))
  rw [← hw1]
  clear hw1
  go_loopw [3] (fun iv wr => ∃ k m : Nat, k ≤ init.length ∧ iv = .int .i64 k ∧ wr = w1.drewN m ∧ Hid ((init.take k).any (outB nodes.length) = false)) (fun iv _ => init.length - (intOf iv).toNat)
  case atStart => exact ⟨0, 0, Nat.zero_le _, rfl, rfl, by simp [Hid]⟩
  case round =>
    obtain ⟨k, m, hk, rfl, rfl, hall⟩ := hrel
    have a0 : w1.cell? ⟨w.heap.size, 0, none⟩ = some (.int .i64 sn) := rA.cell 0
    have a1 : w1.cell? ⟨w.heap.size, 1, none⟩ = some (.slice ai init.length ci) := rA.cell 1
    have a2 : w1.cell? ⟨w.heap.size, 2, none⟩ = some (.slice an nodes.length cn) := rA.cell 2
    by_cases hlt : k < init.length
    · obtain ⟨bb, off, x, hab, cx, hx⟩ := hi.out.at k hlt
      have hx2 : x = init[k] := by rw [hx.out, List.getD_eq_getElem?_getD, List.getElem?_eq_getElem hlt]; rfl
      have hst := Lib.hid (any_snoc hlt hall.out)
      rw [← hx2] at hst
      clear hx2 hall hx
      subst hab
      by_cases h0 : x < 0
      · have hr2 : Hid (r = 10) := by
          have := hr.out
          rw [if_pos (any_of_take (k := k + 1) (by rw [hst.out]; unfold outB; rw [decide_eq_true h0]; rfl))] at this
          exact this.symm
        obtain rfl := hr2.out
        clear hr2 hst hr
        go_wp2
        go_quiet (fail)
        go_wp2
        go_ret
        exact ⟨rfl, by first | exact HB.out _ | (rw [World.drewN_drewN]; exact HB.out _)⟩
      · have h0' : decide (x < 0) = false := decide_eq_false h0
        by_cases h1 : (nodes.length : Int) ≤ x
        · have hr2 : Hid (r = 10) := by
            have := hr.out
            rw [if_pos (any_of_take (k := k + 1) (by rw [hst.out]; unfold outB; rw [decide_eq_true h1]; simp))] at this
            exact this.symm
          obtain rfl := hr2.out
          clear hr2 hst hr h0
          go_wp2
          go_quiet (fail)
          go_wp2
          go_ret
          exact ⟨rfl, by first | exact HB.out _ | (rw [World.drewN_drewN]; exact HB.out _)⟩
        · have h1' : decide ((nodes.length : Int) ≤ x) = false := decide_eq_false h1
          have hst2 : Hid ((init.take (k + 1)).any (outB nodes.length) = false) := by show _ = _; rw [hst.out]; unfold outB; rw [h0', h1']; rfl
          clear hst h0 h1
          go_wp2
          go_quiet (fail)
          go_wp2
          go_roundw
          case rel => exact ⟨k + 1, _, by omega, by go_num, by first | rfl | exact World.drewN_drewN _ _ _, hst2⟩
          case measure => simp [intOf]; omega
    · obtain rfl : k = init.length := by omega
      replace hr : Hid (chkN nodes.length sn nodes = r) := by
        have := hr.out
        have h2 := hall.out
        rw [List.take_length] at h2
        rwa [h2, if_neg (by simp)] at this
      clear hall
      go_wp2
      go_loopw [4] (fun iv wr => ∃ k m : Nat, k ≤ nodes.length ∧ iv = .int .i64 k ∧ wr = w1.drewN m ∧ Hid (chkN nodes.length sn (nodes.drop k) = r)) (fun iv _ => nodes.length - (intOf iv).toNat)
      case atStart => exact ⟨0, m, Nat.zero_le _, rfl, rfl, hr⟩
      case round =>
        obtain ⟨k, m, hk, rfl, rfl, hs⟩ := hrel
        clear hr
        by_cases hlt : k < nodes.length
        · have hd : nodes.drop k = nodes[k] :: nodes.drop (k + 1) := List.drop_eq_getElem_cons hlt
          have hok1 := hok.out _ (List.getElem_mem hlt)
          obtain ⟨b, off, hab, q0, q1, q2, at_, ct, q3, hto⟩ := hn.out.at k hlt
          rw [hd, chkN_cons] at hs
          clear hd
          generalize nodes[k] = x at hs hok1 q0 q1 q2 q3 hto
          obtain ⟨ne, ba, inn, to⟩ := x
          simp only at hs hok1 q0 q1 q2 q3 hto
          obtain ⟨o0, o1, o2, o3, _⟩ := hok1
          subst hab
          replace hto := Lib.hid hto
          go_wp2
          go_loopw [5] (fun jv wr => ∃ j m : Nat, j ≤ to.length ∧ jv = .int .i64 j ∧ wr = w1.drewN m ∧ Hid ((to.take j).any (outB nodes.length) = false)) (fun jv _ => to.length - (intOf jv).toNat)
          case atStart => exact ⟨0, m, Nat.zero_le _, rfl, rfl, by simp [Hid]⟩
          case round =>
            obtain ⟨j, m, hj, rfl, rfl, hall⟩ := hrel
            by_cases hlt2 : j < to.length
            · obtain ⟨bb, of2, x, hab, cx, hx⟩ := hto.out.at j hlt2
              have hx2 : x = to[j] := by rw [hx.out, List.getD_eq_getElem?_getD, List.getElem?_eq_getElem hlt2]; rfl
              have hst := Lib.hid (any_snoc hlt2 hall.out)
              rw [← hx2] at hst
              clear hx2 hall hx
              subst hab
              by_cases h0 : x < 0
              · have hr2 : Hid (r = 10) := by
                  have := hs.out
                  rw [if_pos (any_of_take (k := j + 1) (by rw [hst.out]; unfold outB; rw [decide_eq_true h0]; rfl))] at this
                  exact this.symm
                obtain rfl := hr2.out
                clear hr2 hst hs
                go_wp2
                go_quiet (fail)
                go_wp2
                go_ret
                exact ⟨rfl, by first | exact HB.out _ | (rw [World.drewN_drewN]; exact HB.out _)⟩
              · have h0' : decide (x < 0) = false := decide_eq_false h0
                by_cases h1 : (nodes.length : Int) ≤ x
                · have hr2 : Hid (r = 10) := by
                    have := hs.out
                    rw [if_pos (any_of_take (k := j + 1) (by rw [hst.out]; unfold outB; rw [decide_eq_true h1]; simp))] at this
                    exact this.symm
                  obtain rfl := hr2.out
                  clear hr2 hst hs h0
                  go_wp2
                  go_quiet (fail)
                  go_wp2
                  go_ret
                  exact ⟨rfl, by first | exact HB.out _ | (rw [World.drewN_drewN]; exact HB.out _)⟩
                · have h1' : decide ((nodes.length : Int) ≤ x) = false := decide_eq_false h1
                  have hst2 : Hid ((to.take (j + 1)).any (outB nodes.length) = false) := by show _ = _; rw [hst.out]; unfold outB; rw [h0', h1']; rfl
                  clear hst h0 h1
                  go_wp2
                  go_quiet (fail)
                  go_wp2
                  go_roundw
                  case rel => exact ⟨j + 1, _, by omega, by go_num, by first | rfl | exact World.drewN_drewN _ _ _, hst2⟩
                  case measure => simp [intOf]; omega
            · obtain rfl : j = to.length := by omega
              replace hs : Hid ((if inn / 2 ^ sn ≠ 0 then 3 else chkN nodes.length sn (nodes.drop (k + 1))) = r) := by
                have := hs.out
                have h2 := hall.out
                rw [List.take_length] at h2
                rwa [h2, if_neg (by simp)] at this
              clear hall
              have hq := shr_ne (n := inn) (s := sn)
              have e64 : IntKind.u64.wrap (sn : Int) = (sn : Int) := IntWalk.u64_in _ (by omega)
              by_cases hz : inn / 2 ^ sn ≠ 0
              · rw [decide_eq_true hz] at hq
                have hr2 : Hid (r = 3) := by have := hs.out; rw [if_pos hz] at this; exact this.symm
                obtain rfl := hr2.out
                clear hr2 hs hz
                go_wp2
                go_quiet (fail)
                go_wp2
                go_ret
                exact ⟨rfl, by first | exact HB.out _ | (rw [World.drewN_drewN]; exact HB.out _)⟩
              · rw [decide_eq_false hz] at hq
                replace hs : Hid (chkN nodes.length sn (nodes.drop (k + 1)) = r) := by have := hs.out; rwa [if_neg hz] at this
                clear hz
                go_wp2
                go_quiet (fail)
                go_wp2
                go_roundw
                case rel => exact ⟨k + 1, _, by omega, by go_num, by first | rfl | exact World.drewN_drewN _ _ _, hs⟩
                case measure => simp [intOf]; omega
        · obtain rfl : k = nodes.length := by omega
          have hr2 : Hid (r = 0) := by have := hs.out; rw [List.drop_length] at this; exact this.symm
          obtain rfl := hr2.out
          clear hr2 hs
          go_wp2
          go_ret
          exact ⟨rfl, by first | exact HB.out _ | (rw [World.drewN_drewN]; exact HB.out _)⟩
end Go.Proofs.YtjacphcnanopjaaDoor
