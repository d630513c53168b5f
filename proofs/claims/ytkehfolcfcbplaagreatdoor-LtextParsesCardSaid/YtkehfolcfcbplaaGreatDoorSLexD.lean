/- The library's conversions at this program, and what the listed variables hold, the lexer's signs and own words among them. Conditions: the row's own. -/
import Derived.Test.YtkehfolcfcbplaaGreatDoorRows
import Derived.Test.YtkehfolcfcbplaaGreatDoorSLexO
import Derived.Test.YtkehfolcfcbplaaGreatDoorSLtP
import Derived.Shelf.Strings.Prefix
import Derived.Shelf.Strconv.AtoiAll
import Derived.Shelf.Strconv.Itoa3
import Derived.Shelf.Lay
import Derived.Lib.AtoiErrMem
import Derived.Lib.AppendIntMem
import Derived.Ground.NamesProg
import Derived.Stop.LaidErr
import Derived.Lib.LaidTab
import Derived.MakeChecks
namespace Go.Proofs.YtkehfolcfcbplaaGreatDoor
open Go.Shelf Go.RowKit
shelf_lay LaysC.n172 Nm 172 at Tryz as Tryz.laysC172
shelf_lay LaysM.n171 Nm 171 at Tryz as Tryz.laysM171
shelf_lay Lays.n99 Nm 99 at Tryz as Tryz.lays99
theorem gPow : Tryz.prog.globalNamed "internal/strconv.uint64pow10" = some 5 := by kernel_rfl
theorem gPowT : (Tryz.prog.globals[5]?).map (·.type) = some 133 := by kernel_rfl
theorem gES : Tryz.prog.globalNamed "strconv.ErrSyntax" = some 3 := by kernel_rfl
theorem gEST : (Tryz.prog.globals[3]?).map (·.type) = some 97 := by kernel_rfl
theorem gER : Tryz.prog.globalNamed "strconv.ErrRange" = some 4 := by kernel_rfl
theorem gERT : (Tryz.prog.globals[4]?).map (·.type) = some 97 := by kernel_rfl
theorem cES : Tryz.prog.cellsOf 126 = 1 := by kernel_rfl
theorem cStr : Tryz.prog.cellsOf 9 = 1 := by kernel_rfl
theorem cU64 : Tryz.prog.cellsOf 113 = 1 := by kernel_rfl
theorem cPow : Tryz.prog.cellsOf 133 = 20 := by kernel_rfl
theorem starE : "*" ++ "errors.errorString" = "*errors.errorString" := by decide
theorem rowES (u : TypeId) (h : Tryz.prog.typeName? 3 u = some "*errors.errorString") : u = 124 :=
 typeName_ptr_named (nm := "errors.errorString") (by rw [starE]; kernel_rfl) (by kernel_rfl) (by decide) u (by rw [starE]; exact h)
theorem powD : (Rows.laid_internal_strconv_uint64pow10 : DataW Unit) = Lib.tabData .u64 Lib.pow10Tab := by rfl
theorem gSig : Tryz.prog.globalNamed "lariat/lex.signs" = some 1 := by kernel_rfl
theorem gSigT : (Tryz.prog.globals[1]?).map (·.type) = some 83 := by kernel_rfl
theorem gOwn : Tryz.prog.globalNamed "lariat/lex.own" = some 2 := by kernel_rfl
theorem gOwnT : (Tryz.prog.globals[2]?).map (·.type) = some 95 := by kernel_rfl
theorem cSig : Tryz.prog.cellsOf 83 = 25 := by kernel_rfl
theorem cOwn : Tryz.prog.cellsOf 95 = 4 := by kernel_rfl
def strData {H : Type} (zs : List (List UInt8)) : DataW H := .agg (zs.map fun z => .lit (.string z))
def strVals (zs : List (List UInt8)) : List Value := zs.map fun z => .string ⟨z.toArray⟩
theorem cells_of_strs {H : Type} {enc : TypeId × Value → H} {P : Program} {w : World} {base : Nat} {sp : Nat → Bool} {held : Bool} {fuel : Nat} {t e : TypeId} {n : Nat} {cs : List Value} {zs : List (List UInt8)} {p : List MemPlace}
  (ht : P.underlying t = some (.array n e)) (he : P.underlying e = some .string) (hce : P.cellsOf e = 1) (hct : P.cellsOf t = n)
  (h : DataW.trod enc P w base sp held fuel t cs = some (strData zs, p)) : cs = strVals zs := by
 cases fuel with
 | zero => simp [DataW.trod] at h
 | succ fuel =>
  simp only [DataW.trod, ht, hce, hct, Nat.mul_one] at h
  split at h
  ·rename_i hl
   obtain ⟨xs, hm, hx⟩ := Option.map_eq_some_iff.1 h
   have hxs : xs.map (·.1) = zs.map fun z => (DataW.lit (.string z) : DataW H) := by
    have := congrArg Prod.fst hx
    simpa [strData] using this
   have hxl : xs.length = n := by simpa using Lib.mapM_length hm
   have hzl : zs.length = n := by
    have := congrArg List.length hxs
    simp at this
    omega
   apply List.ext_getElem?
   intro i
   by_cases hi : i < n
   ·obtain ⟨b, hb, hf⟩ := Lib.mapM_at hm i i (by simp [hi])
    obtain ⟨z, hc, rfl, _⟩ := DataW.trod_string he hf
    have h1 : cs[i]? = some (.string z) := by
     have := congrArg (·[0]?) hc
     simpa [List.getElem?_take, List.getElem?_drop] using this
    have h2 : (xs.map (·.1))[i]? = some (DataW.lit (.string z.data.toList) : DataW H) := by simp [hb]
    rw [hxs] at h2
    simp only [List.getElem?_map, Option.map_eq_some_iff, DataW.lit.injEq, Lit.string.injEq] at h2
    obtain ⟨z', hz', hz2⟩ := h2
    subst hz2
    simp [h1, strVals, hz']
   ·rw [List.getElem?_eq_none (by omega), List.getElem?_eq_none (by simp [strVals]; omega)]
  ·cases h
theorem strs_of_head {P : Program} {W : World} {name : String} {zs : List (List UInt8)} {rest : List (String × DataW Unit)} {g : Nat} {t e : TypeId} {n : Nat}
  (hg : P.globalNamed name = some g) (hty : (P.globals[g]?).map (·.type) = some t) (ht : P.underlying t = some (.array n e)) (he : P.underlying e = some .string) (hce : P.cellsOf e = 1) (hct : P.cellsOf t = n)
  (h : laidMet P ((name, strData zs) :: rest) W) : ∀ i, i < zs.length → W.cell? ⟨g, i, none⟩ = (strVals zs)[i]? := by
 obtain ⟨ps, ⟨g', t', cs, fuel, p, q, hg', ht', hvar, hd, _, _⟩, _⟩ := h
 obtain rfl := Option.some.inj (hg.symm.trans hg')
 obtain rfl := Option.some.inj (hty.symm.trans ht')
 intro i hi
 have := World.var?_cell hg hvar i
 rw [this, ← cells_of_strs ht he hce hct hd]
 simp
theorem gWays : Tryz.prog.globalNamed "lariat/ltext.ways" = some 0 := by kernel_rfl
theorem gWaysT : (Tryz.prog.globals[0]?).map (·.type) = some 62 := by kernel_rfl
abbrev WayP : Type := List UInt8 × Int × Int × Int
def wayData {H : Type} (r : WayP) : DataW H := .agg [.lit (.string r.1), .lit (.int .i64 r.2.1), .lit (.int .i64 r.2.2.1), .lit (.int .i64 r.2.2.2)]
def waysData {H : Type} (zs : List WayP) : DataW H := .agg (zs.map wayData)
def wayV (r : WayP) : List Value := [.string ⟨r.1.toArray⟩, .int .i64 r.2.1, .int .i64 r.2.2.1, .int .i64 r.2.2.2]
def wayVals (zs : List WayP) : List Value := zs.flatMap wayV
def waysL : List WayP := [([], 0, 0, 0), (wordP 1, 5, 0, 0), (wordP 2, 5, 0, 0), ([], 5, 0, 0), (wordP 4, 5, 0, 5), (wordP 5, 3, 3, 4), (wordP 6, 2, 2, 3), (wordP 7, 1, 2, 1), (wordP 8, 5, 0, 5), (wordP 9, 4, 5, 4), (wordP 10, 4, 5, 4), (wordP 11, 5, 0, 5), (wordP 12, 5, 0, 5)]
theorem wayVals_at : ∀ (zs : List WayP) (i j : Nat) (hi : i < zs.length), j < 4 → (wayVals zs)[i * 4 + j]? = (wayV zs[i])[j]?
 | z :: zs, 0, j, hi, hj => by
  show (wayV z ++ wayVals zs)[0 * 4 + j]? = _
  rw [Nat.zero_mul, Nat.zero_add, List.getElem?_append_left hj]
  rfl
 | z :: zs, i + 1, j, hi, hj => by
  show (wayV z ++ wayVals zs)[(i + 1) * 4 + j]? = _
  have hl : (wayV z).length = 4 := rfl
  rw [List.getElem?_append_right (by rw [hl]; omega), hl, show (i + 1) * 4 + j - 4 = i * 4 + j by omega]
  exact wayVals_at zs i j (by simpa using hi) hj
theorem way_of_trod {H : Type} {enc : TypeId × Value → H} {P : Program} {w : World} {base : Nat} {sp : Nat → Bool} {held : Bool} {fuel : Nat} {e ts ti : TypeId} {fs : Array Field} {cs : List Value} {z : WayP} {p : List MemPlace}
  (he : P.underlying e = some (.struct fs)) (hf : fs.map (fun f => (f.offset, f.type)) = #[(0, ts), (1, ti), (2, ti), (3, ti)]) (hs : P.underlying ts = some .string) (hi : P.underlying ti = some (.int .i64)) (hcs : P.cellsOf ts = 1) (hci : P.cellsOf ti = 1) (hce : P.cellsOf e = 4)
  (h : DataW.trod enc P w base sp held fuel e cs = some (wayData z, p)) : cs = wayV z := by
 obtain ⟨xs, n, rfl, hx, hlen, hxl, hf'⟩ := DataW.trod_struct he h
 simp only [Prod.mk.injEq, wayData, DataW.agg.injEq] at hx
 have hsz : fs.size = 4 := by have := congrArg Array.size hf; simpa using this
 have fo : ∀ j (hj : j < 4), fs[j]? = some (fs[j]'(by omega)) := fun j hj => Array.getElem?_eq_getElem (by omega)
 have ft : ∀ j (hj : j < 4), ((fs[j]'(by omega)).offset, (fs[j]'(by omega)).type) = [(0, ts), (1, ti), (2, ti), (3, ti)][j] := fun j hj => by
  have := congrArg (fun a => a[j]?) hf
  simp only [Array.getElem?_map, fo j hj, Option.map_some] at this
  rw [List.getElem?_toArray, List.getElem?_eq_getElem (by exact hj)] at this
  exact Option.some.inj this
 have hcl : cs.length = 4 := hlen.trans hce
 obtain ⟨a, b, c, d, rfl⟩ : ∃ a b c d, cs = [a, b, c, d] := by
  match cs, hcl with
  | [a, b, c, d], _ => exact ⟨a, b, c, d, rfl⟩
 have xl : xs.length = 4 := by rw [hxl, hsz]
 obtain ⟨x0, x1, x2, x3, rfl⟩ : ∃ a b c d, xs = [a, b, c, d] := by
  match xs, xl with
  | [a, b, c, d], _ => exact ⟨a, b, c, d, rfl⟩
 simp only [List.map_cons, List.map_nil, List.cons.injEq, and_true] at hx
 obtain ⟨⟨e0, e1, e2, e3⟩, _⟩ := hx
 have g0 := hf' 0 _ (fo 0 (by decide))
 have g1 := hf' 1 _ (fo 1 (by decide))
 have g2 := hf' 2 _ (fo 2 (by decide))
 have g3 := hf' 3 _ (fo 3 (by decide))
 have t0 := ft 0 (by decide)
 have t1 := ft 1 (by decide)
 have t2 := ft 2 (by decide)
 have t3 := ft 3 (by decide)
 simp only [List.getElem_cons_zero, List.getElem_cons_succ, Prod.mk.injEq] at t0 t1 t2 t3
 rw [t0.1, t0.2, hcs] at g0
 rw [t1.1, t1.2, hci] at g1
 rw [t2.1, t2.2, hci] at g2
 rw [t3.1, t3.2, hci] at g3
 simp only [List.drop_zero, List.drop_succ_cons, List.take_succ_cons, List.take_zero, List.getElem?_cons_zero, List.getElem?_cons_succ] at g0 g1 g2 g3
 obtain ⟨s, q0, r0, _⟩ := DataW.trod_string hs g0
 obtain ⟨n1, q1, r1, _⟩ := DataW.trod_int hi g1
 obtain ⟨n2, q2, r2, _⟩ := DataW.trod_int hi g2
 obtain ⟨n3, q3, r3, _⟩ := DataW.trod_int hi g3
 rw [r0] at e0
 rw [r1] at e1
 rw [r2] at e2
 rw [r3] at e3
 simp only [DataW.lit.injEq, Lit.string.injEq, Lit.int.injEq, true_and] at e0 e1 e2 e3
 simp only [List.cons.injEq, and_true] at q0 q1 q2 q3
 rw [q0, q1, q2, q3]
 unfold wayV
 rw [e0, e1, e2, e3]
theorem cells_of_ways {H : Type} {enc : TypeId × Value → H} {P : Program} {w : World} {base : Nat} {sp : Nat → Bool} {held : Bool} {fuel : Nat} {t e ts ti : TypeId} {fs : Array Field} {n : Nat} {cs : List Value} {zs : List WayP} {p : List MemPlace}
  (ht : P.underlying t = some (.array n e)) (he : P.underlying e = some (.struct fs)) (hf : fs.map (fun f => (f.offset, f.type)) = #[(0, ts), (1, ti), (2, ti), (3, ti)]) (hs : P.underlying ts = some .string) (hi : P.underlying ti = some (.int .i64)) (hcs : P.cellsOf ts = 1) (hci : P.cellsOf ti = 1) (hce : P.cellsOf e = 4)
  (h : DataW.trod enc P w base sp held fuel t cs = some (waysData zs, p)) : ∀ i, i < zs.length → ∀ j, j < 4 → cs[i * 4 + j]? = (wayVals zs)[i * 4 + j]? := by
 cases fuel with
 | zero => simp [DataW.trod] at h
 | succ fuel =>
  simp only [DataW.trod, ht, hce] at h
  split at h
  ·rename_i hl
   obtain ⟨xs, hm, hx⟩ := Option.map_eq_some_iff.1 h
   have hxs : xs.map (·.1) = zs.map wayData := by
    have := congrArg Prod.fst hx
    simpa [waysData] using this
   have hxl : xs.length = n := by simpa using Lib.mapM_length hm
   have hzl : zs.length = n := by
    have := congrArg List.length hxs
    simp at this
    omega
   intro i hi2 j hj
   obtain ⟨b, hb, hf2⟩ := Lib.mapM_at hm i i (List.getElem?_range (by omega))
   have h2 : (xs.map (·.1))[i]? = some b.1 := by simp [hb]
   rw [hxs, List.getElem?_map, List.getElem?_eq_getElem hi2] at h2
   have h3 : wayData zs[i] = b.1 := Option.some.inj h2
   have h4 := way_of_trod (z := zs[i]) (p := b.2) he hf hs hi hcs hci hce (by rw [hf2, h3])
   rw [wayVals_at zs i j hi2 hj, ← h4, List.getElem?_take, if_pos hj, List.getElem?_drop]
  ·cases h
theorem ways_of_head {P : Program} {W : World} {name : String} {zs : List WayP} {rest : List (String × DataW Unit)} {g : Nat} {t e ts ti : TypeId} {fs : Array Field} {n : Nat}
  (hg : P.globalNamed name = some g) (hty : (P.globals[g]?).map (·.type) = some t) (ht : P.underlying t = some (.array n e)) (he : P.underlying e = some (.struct fs)) (hf : fs.map (fun f => (f.offset, f.type)) = #[(0, ts), (1, ti), (2, ti), (3, ti)]) (hs : P.underlying ts = some .string) (hi : P.underlying ti = some (.int .i64)) (hcs : P.cellsOf ts = 1) (hci : P.cellsOf ti = 1) (hce : P.cellsOf e = 4)
  (h : laidMet P ((name, waysData zs) :: rest) W) : ∀ i, i < zs.length * 4 → W.cell? ⟨g, i, none⟩ = (wayVals zs)[i]? := by
 obtain ⟨ps, ⟨g', t', cs, fuel, p, q, hg', ht', hvar, hd, _, _⟩, _⟩ := h
 obtain rfl := Option.some.inj (hg.symm.trans hg')
 obtain rfl := Option.some.inj (hty.symm.trans ht')
 intro i hi2
 have h1 := World.var?_cell hg hvar i
 have h2 := cells_of_ways ht he hf hs hi hcs hci hce hd (i / 4) (by omega) (i % 4) (Nat.mod_lt _ (by decide))
 rw [show i / 4 * 4 + i % 4 = i by omega] at h2
 rw [h1, ← h2]
 simp
structure Door (w : World) : Prop where
 tab : Lib.TabIs Tryz.prog w "internal/strconv.uint64pow10" .u64 Lib.pow10Tab
 es : ∃ p, w.cell? ⟨3, 0, none⟩ = some (.iface 124 p)
 er : ∃ p, w.cell? ⟨4, 0, none⟩ = some (.iface 124 p)
 sig : ∀ i, i < 25 → w.cell? ⟨1, i, none⟩ = (strVals signsL)[i]?
 own : ∀ i, i < 4 → w.cell? ⟨2, i, none⟩ = (strVals ownW)[i]?
 ways : ∀ i, i < 52 → w.cell? ⟨0, i, none⟩ = (wayVals waysL)[i]?
abbrev laidL : List (String × DataW Unit) := [("math/bits.deBruijn32tab", Rows.laid_math_bits_deBruijn32tab), ("math/bits.deBruijn64tab", Rows.laid_math_bits_deBruijn64tab), ("internal/strconv.uint64pow10", Rows.laid_internal_strconv_uint64pow10), ("strconv.ErrRange", Rows.laid_strconv_ErrRange), ("strconv.ErrSyntax", Rows.laid_strconv_ErrSyntax), ("lariat/lex.signs", Rows.laid_lariat_lex_signs), ("lariat/lex.own", Rows.laid_lariat_lex_own), ("lariat/ltext.ways", Rows.laid_lariat_ltext_ways)]
theorem Door.of_laid {W : World} (h : laidMetH Tryz.prog laidL W) : Door W := by
 rw [MakeChecks.laidMetH_plain _ _ _ (by kernel_rfl)] at h
 have h3 := h.tail.tail
 have h4 := h3.tail
 have h5 := h4.tail
 have h7 := h5.tail
 have h8 := h7.tail
 obtain ⟨a0, s0, hv0, _⟩ := laid_sentinel h4 gER gERT Tryz.underlying97 rowES Tryz.underlying124 Tryz.underlying126 rfl rfl Tryz.underlying9 cES cStr
 obtain ⟨a1, s1, hv1, _⟩ := laid_sentinel h5 gES gEST Tryz.underlying97 rowES Tryz.underlying124 Tryz.underlying126 rfl rfl Tryz.underlying9 cES cStr
 have h6 : laidMet Tryz.prog (("internal/strconv.uint64pow10", Lib.tabData .u64 Lib.pow10Tab) :: [("strconv.ErrRange", Rows.laid_strconv_ErrRange), ("strconv.ErrSyntax", Rows.laid_strconv_ErrSyntax), ("lariat/lex.signs", Rows.laid_lariat_lex_signs), ("lariat/lex.own", Rows.laid_lariat_lex_own), ("lariat/ltext.ways", Rows.laid_lariat_ltext_ways)]) W := by
  rw [← powD]; exact h3
 have h9 : laidMet Tryz.prog (("lariat/lex.signs", strData signsL) :: [("lariat/lex.own", Rows.laid_lariat_lex_own), ("lariat/ltext.ways", Rows.laid_lariat_ltext_ways)]) W := h7
 have h10 : laidMet Tryz.prog (("lariat/lex.own", strData ownW) :: [("lariat/ltext.ways", Rows.laid_lariat_ltext_ways)]) W := h8
 have h11 : laidMet Tryz.prog (("lariat/ltext.ways", waysData waysL) :: []) W := h8.tail
 exact ⟨Lib.tabIs_of_head gPow gPowT Tryz.underlying133 Tryz.underlying113 cU64 cPow h6,
  ⟨_, by have h0 := World.var?_cell gES hv1 0; simpa using h0⟩, ⟨_, by have h0 := World.var?_cell gER hv0 0; simpa using h0⟩,
  strs_of_head gSig gSigT Tryz.underlying83 Tryz.underlying9 cStr cSig h9,
  strs_of_head gOwn gOwnT Tryz.underlying95 Tryz.underlying9 cStr cOwn h10,
  ways_of_head gWays gWaysT Tryz.underlying62 Tryz.underlying61 (by simp) Tryz.underlying9 Tryz.underlying3 cStr (by kernel_rfl) (by kernel_rfl) h11⟩
theorem varBelow {n : String} {g : Nat} {cs : Array Value} {w w' : World} (hg : Tryz.prog.globalNamed n = some g) (h : w.var? Tryz.prog n = some cs) (hb : Below w.heap.size w w') (hl : g < w.heap.size) : w'.var? Tryz.prog n = some cs := by
 unfold World.var? at h ⊢
 rw [hg] at h ⊢
 simp only [Option.bind_some] at h ⊢
 rw [hb.block g hl]
 exact h
theorem Door.below {w w' : World} (h : Door w) (hb : Below w.heap.size w w') : Door w' := by
 obtain ⟨p, hp⟩ := h.es
 obtain ⟨q, hq⟩ := h.er
 have cb : ∀ {a : Addr} {v : Value}, w.cell? a = some v → w'.cell? a = some v := fun hv => (hb.cell (World.block_lt_of_cell? w _ hv)).trans hv
 refine ⟨?_, ⟨p, (hb.cell (World.block_lt_of_cell? w _ hp)).trans hp⟩, ⟨q, (hb.cell (World.block_lt_of_cell? w _ hq)).trans hq⟩, fun i hi => ?_, fun i hi => ?_, fun i hi => ?_⟩
 ·have h0 := h.tab
  unfold Lib.TabIs at h0 ⊢
  exact varBelow gPow h0 hb (by
   have := h.tab.cell gPow 0 (by decide)
   exact World.block_lt_of_cell? w _ this)
 ·have h1 := h.sig i hi
  rw [List.getElem?_eq_getElem (show i < (strVals signsL).length from hi)] at h1 ⊢
  exact cb h1
 ·have h1 := h.own i hi
  rw [List.getElem?_eq_getElem (show i < (strVals ownW).length from hi)] at h1 ⊢
  exact cb h1
 ·have h1 := h.ways i hi
  rw [List.getElem?_eq_getElem (show i < (wayVals waysL).length from hi)] at h1 ⊢
  exact cb h1
theorem itoa_d (n : Int) (h0 : -9223372036854775808 ≤ n) (h1 : n ≤ 9223372036854775807) (w : World) (h : Door w) :
  Calls Tryz.prog 82 #[.int .i64 n] w fun e w' => e = .returned (.string ⟨(Lib.itoa n).toArray⟩) ∧ Below w.heap.size w w' :=
 (Any.strconv_Itoa Tryz.laysM171 n h0 h1 w h.tab).mono fun e w' ⟨h2, k, os, h3⟩ => ⟨h2, by rw [h3]; exact Lib.below_grow _ w (Nat.le_refl _) k os⟩
theorem atoi_ok_d (s : ByteArray) (hmax : s.size ≤ 9223372036854775806) (v : Int) (h : Lib.atoiAll s.data.toList = .ok v) (w : World) :
  Calls Tryz.prog 69 #[.string s] w fun e w' => e = .returned (.tuple #[.int .i64 v, .nilIface]) ∧ Below w.heap.size w w' :=
 (Any.strconv_Atoi_ok Tryz.laysC172 s hmax v h w).mono fun e w' ⟨h2, h3⟩ => ⟨h2, by
  rcases h3 with rfl | ⟨t, rfl⟩
  ·exact Below.refl _ _
  ·exact Lib.bytesWorld_below _ _ _⟩
theorem atoi_no_d (s : ByteArray) (hlim : s.size ≤ 281474976710656) (h : ∀ v, Lib.atoiAll s.data.toList ≠ .ok v) (w : World) (hd : Door w) :
  Calls Tryz.prog 69 #[.string s] w fun e w' => ∃ x T p, e = .returned (.tuple #[.int .i64 x, .iface T (.pointer (some p))]) ∧ Below w.heap.size w w' := by
 cases ha : Lib.atoiAll s.data.toList with
 | ok v => exact absurd ha (h v)
 | «syntax» =>
  obtain ⟨p, hp⟩ := hd.es
  exact (Any.strconv_Atoi_syntax Tryz.laysC172 s hlim ha _ w hp (Or.inr ⟨_, _, rfl⟩)).mono fun e w' ⟨N, h1, _, _, h4⟩ => ⟨_, _, _, h1, h4⟩
 | range =>
  obtain ⟨p, hp⟩ := hd.er
  exact (Any.strconv_Atoi_range Tryz.laysC172 s hlim ha _ w hp (Or.inr ⟨_, _, rfl⟩)).mono fun e w' ⟨N, h1, _, _, h4⟩ => ⟨_, _, _, h1, h4⟩
end Go.Proofs.YtkehfolcfcbplaaGreatDoor
