/- The library's conversions at this program, and what the listed variables hold, the lexer's signs and own words among them. Conditions: the row's own. -/
import Derived.Test.YtahcgbaaimmkfaaDoorRows
import Derived.Test.YtahcgbaaimmkfaaDoorLexO
import Derived.Shelf.Strings.Prefix
import Derived.Shelf.Strconv.AtoiAll
import Derived.Shelf.Strconv.Itoa3
import Derived.Shelf.Lay
import Derived.Lib.AtoiErrMem
import Derived.Lib.AppendIntMem
import Derived.Ground.NamesProg
import Derived.Stop.LaidErr
import Derived.Lib.LaidTab
import Derived.MakeChecks
namespace Go.Proofs.YtahcgbaaimmkfaaDoor
open Go.Shelf Go.RowKit

shelf_lay LaysC.n172 Nm 172 at Tryd as Tryd.laysC172
shelf_lay LaysM.n171 Nm 171 at Tryd as Tryd.laysM171
shelf_lay Lays.n99 Nm 99 at Tryd as Tryd.lays99
theorem gPow : Tryd.prog.globalNamed "internal/strconv.uint64pow10" = some 5 := by kernel_rfl
theorem gPowT : (Tryd.prog.globals[5]?).map (·.type) = some 108 := by kernel_rfl
theorem gES : Tryd.prog.globalNamed "strconv.ErrSyntax" = some 3 := by kernel_rfl
theorem gEST : (Tryd.prog.globals[3]?).map (·.type) = some 66 := by kernel_rfl
theorem gER : Tryd.prog.globalNamed "strconv.ErrRange" = some 4 := by kernel_rfl
theorem gERT : (Tryd.prog.globals[4]?).map (·.type) = some 66 := by kernel_rfl
theorem cES : Tryd.prog.cellsOf 114 = 1 := by kernel_rfl
theorem cStr : Tryd.prog.cellsOf 9 = 1 := by kernel_rfl
theorem cU64 : Tryd.prog.cellsOf 78 = 1 := by kernel_rfl
theorem cPow : Tryd.prog.cellsOf 108 = 20 := by kernel_rfl
theorem starE : "*" ++ "errors.errorString" = "*errors.errorString" := by decide
theorem rowES (u : TypeId) (h : Tryd.prog.typeName? 3 u = some "*errors.errorString") : u = 112 :=
  typeName_ptr_named (nm := "errors.errorString") (by rw [starE]; kernel_rfl) (by kernel_rfl) (by decide) u (by rw [starE]; exact h)
theorem powD : (Rows.laid_internal_strconv_uint64pow10 : DataW Unit) = Lib.tabData .u64 Lib.pow10Tab := by rfl
theorem gSig : Tryd.prog.globalNamed "lariat/lex.signs" = some 1 := by kernel_rfl
theorem gSigT : (Tryd.prog.globals[1]?).map (·.type) = some 71 := by kernel_rfl
theorem gOwn : Tryd.prog.globalNamed "lariat/lex.own" = some 0 := by kernel_rfl
theorem gOwnT : (Tryd.prog.globals[0]?).map (·.type) = some 55 := by kernel_rfl
theorem cSig : Tryd.prog.cellsOf 71 = 25 := by kernel_rfl
theorem cOwn : Tryd.prog.cellsOf 55 = 4 := by kernel_rfl
/-- an array of texts as a row lists it -/
def strData {H : Type} (zs : List (List UInt8)) : DataW H := .agg (zs.map fun z => .lit (.string z))
def strVals (zs : List (List UInt8)) : List Value := zs.map fun z => .string ⟨z.toArray⟩
theorem cells_of_strs {H : Type} {enc : TypeId × Value → H} {P : Program} {w : World} {base : Nat} {sp : Nat → Bool} {held : Bool} {fuel : Nat} {t e : TypeId} {n : Nat} {cs : List Value} {zs : List (List UInt8)} {p : List MemPlace}
    (ht : P.underlying t = some (.array n e)) (he : P.underlying e = some .string) (hce : P.cellsOf e = 1) (hct : P.cellsOf t = n)
    (h : DataW.trod enc P w base sp held fuel t cs = some (strData zs, p)) : cs = strVals zs := by
  cases fuel with
  | zero => simp [DataW.trod] at h
  | succ fuel =>
    simp only [DataW.trod, ht, hce, hct, Nat.mul_one] at h
    split at h
    · rename_i hl
      obtain ⟨xs, hm, hx⟩ := Option.map_eq_some_iff.1 h
      have hxs : xs.map (·.1) = zs.map fun z => (DataW.lit (.string z) : DataW H) := by
        have := congrArg Prod.fst hx
        simpa [strData] using this
      have hxl : xs.length = n := by simpa using Lib.mapM_length hm
      have hzl : zs.length = n := by
        have := congrArg List.length hxs
        simp at this
        omega
      apply List.ext_getElem?
      intro i
      by_cases hi : i < n
      · obtain ⟨b, hb, hf⟩ := Lib.mapM_at hm i i (by simp [hi])
        obtain ⟨z, hc, rfl, _⟩ := DataW.trod_string he hf
        have h1 : cs[i]? = some (.string z) := by
          have := congrArg (·[0]?) hc
          simpa [List.getElem?_take, List.getElem?_drop] using this
        have h2 : (xs.map (·.1))[i]? = some (DataW.lit (.string z.data.toList) : DataW H) := by simp [hb]
        rw [hxs] at h2
        simp only [List.getElem?_map, Option.map_eq_some_iff, DataW.lit.injEq, Lit.string.injEq] at h2
        obtain ⟨z', hz', hz2⟩ := h2
        subst hz2
        simp [h1, strVals, hz']
      · rw [List.getElem?_eq_none (by omega), List.getElem?_eq_none (by simp [strVals]; omega)]
    · cases h
theorem strs_of_head {P : Program} {W : World} {name : String} {zs : List (List UInt8)} {rest : List (String × DataW Unit)} {g : Nat} {t e : TypeId} {n : Nat}
    (hg : P.globalNamed name = some g) (hty : (P.globals[g]?).map (·.type) = some t) (ht : P.underlying t = some (.array n e)) (he : P.underlying e = some .string) (hce : P.cellsOf e = 1) (hct : P.cellsOf t = n)
    (h : laidMet P ((name, strData zs) :: rest) W) : ∀ i, i < zs.length → W.cell? ⟨g, i, none⟩ = (strVals zs)[i]? := by
  obtain ⟨ps, ⟨g', t', cs, fuel, p, q, hg', ht', hvar, hd, _, _⟩, _⟩ := h
  obtain rfl := Option.some.inj (hg.symm.trans hg')
  obtain rfl := Option.some.inj (hty.symm.trans ht')
  intro i hi
  have := World.var?_cell hg hvar i
  rw [this, ← cells_of_strs ht he hce hct hd]
  simp
/-- what the listed variables hold -/
structure Door (w : World) : Prop where
  tab : Lib.TabIs Tryd.prog w "internal/strconv.uint64pow10" .u64 Lib.pow10Tab
  es : ∃ p, w.cell? ⟨3, 0, none⟩ = some (.iface 112 p)
  er : ∃ p, w.cell? ⟨4, 0, none⟩ = some (.iface 112 p)
  sig : ∀ i, i < 25 → w.cell? ⟨1, i, none⟩ = (strVals signsL)[i]?
  own : ∀ i, i < 4 → w.cell? ⟨0, i, none⟩ = (strVals ownW)[i]?
abbrev laidL : List (String × DataW Unit) := [("math/bits.deBruijn32tab", Rows.laid_math_bits_deBruijn32tab), ("math/bits.deBruijn64tab", Rows.laid_math_bits_deBruijn64tab), ("internal/strconv.uint64pow10", Rows.laid_internal_strconv_uint64pow10), ("strconv.ErrRange", Rows.laid_strconv_ErrRange), ("strconv.ErrSyntax", Rows.laid_strconv_ErrSyntax), ("lariat/lex.signs", Rows.laid_lariat_lex_signs), ("lariat/lex.own", Rows.laid_lariat_lex_own)]
theorem Door.of_laid {W : World} (h : laidMetH Tryd.prog laidL W) : Door W := by
  rw [MakeChecks.laidMetH_plain _ _ _ (by kernel_rfl)] at h
  have h3 := h.tail.tail
  have h4 := h3.tail
  have h5 := h4.tail
  have h7 := h5.tail
  have h8 := h7.tail
  obtain ⟨a0, s0, hv0, _⟩ := laid_sentinel h4 gER gERT Tryd.underlying66 rowES Tryd.underlying112 Tryd.underlying114 rfl rfl Tryd.underlying9 cES cStr
  obtain ⟨a1, s1, hv1, _⟩ := laid_sentinel h5 gES gEST Tryd.underlying66 rowES Tryd.underlying112 Tryd.underlying114 rfl rfl Tryd.underlying9 cES cStr
  have h6 : laidMet Tryd.prog (("internal/strconv.uint64pow10", Lib.tabData .u64 Lib.pow10Tab) :: [("strconv.ErrRange", Rows.laid_strconv_ErrRange), ("strconv.ErrSyntax", Rows.laid_strconv_ErrSyntax), ("lariat/lex.signs", Rows.laid_lariat_lex_signs), ("lariat/lex.own", Rows.laid_lariat_lex_own)]) W := by
    rw [← powD]; exact h3
  have h9 : laidMet Tryd.prog (("lariat/lex.signs", strData signsL) :: [("lariat/lex.own", Rows.laid_lariat_lex_own)]) W := h7
  have h10 : laidMet Tryd.prog (("lariat/lex.own", strData ownW) :: []) W := h8
  exact ⟨Lib.tabIs_of_head gPow gPowT Tryd.underlying108 Tryd.underlying78 cU64 cPow h6,
    ⟨_, by have h0 := World.var?_cell gES hv1 0; simpa using h0⟩, ⟨_, by have h0 := World.var?_cell gER hv0 0; simpa using h0⟩,
    strs_of_head gSig gSigT Tryd.underlying71 Tryd.underlying9 cStr cSig h9,
    strs_of_head gOwn gOwnT Tryd.underlying55 Tryd.underlying9 cStr cOwn h10⟩
theorem varBelow {n : String} {g : Nat} {cs : Array Value} {w w' : World} (hg : Tryd.prog.globalNamed n = some g) (h : w.var? Tryd.prog n = some cs) (hb : Below w.heap.size w w') (hl : g < w.heap.size) : w'.var? Tryd.prog n = some cs := by
  unfold World.var? at h ⊢
  rw [hg] at h ⊢
  simp only [Option.bind_some] at h ⊢
  rw [hb.block g hl]
  exact h
theorem Door.below {w w' : World} (h : Door w) (hb : Below w.heap.size w w') : Door w' := by
  obtain ⟨p, hp⟩ := h.es
  obtain ⟨q, hq⟩ := h.er
  have cb : ∀ {a : Addr} {v : Value}, w.cell? a = some v → w'.cell? a = some v := fun hv => (hb.cell (World.block_lt_of_cell? w _ hv)).trans hv
  refine ⟨?_, ⟨p, (hb.cell (World.block_lt_of_cell? w _ hp)).trans hp⟩, ⟨q, (hb.cell (World.block_lt_of_cell? w _ hq)).trans hq⟩, fun i hi => ?_, fun i hi => ?_⟩
  · have h0 := h.tab
    unfold Lib.TabIs at h0 ⊢
    exact varBelow gPow h0 hb (by
      have := h.tab.cell gPow 0 (by decide)
      exact World.block_lt_of_cell? w _ this)
  · have h1 := h.sig i hi
    rw [List.getElem?_eq_getElem (show i < (strVals signsL).length from hi)] at h1 ⊢
    exact cb h1
  · have h1 := h.own i hi
    rw [List.getElem?_eq_getElem (show i < (strVals ownW).length from hi)] at h1 ⊢
    exact cb h1
theorem itoa_d (n : Int) (h0 : -9223372036854775808 ≤ n) (h1 : n ≤ 9223372036854775807) (w : World) (h : Door w) :
    Calls Tryd.prog 44 #[.int .i64 n] w fun e w' => e = .returned (.string ⟨(Lib.itoa n).toArray⟩) ∧ Below w.heap.size w w' :=
  (Any.strconv_Itoa Tryd.laysM171 n h0 h1 w h.tab).mono fun e w' ⟨h2, k, os, h3⟩ => ⟨h2, by rw [h3]; exact Lib.below_grow _ w (Nat.le_refl _) k os⟩
theorem atoi_ok_d (s : ByteArray) (hmax : s.size ≤ 9223372036854775806) (v : Int) (h : Lib.atoiAll s.data.toList = .ok v) (w : World) :
    Calls Tryd.prog 50 #[.string s] w fun e w' => e = .returned (.tuple #[.int .i64 v, .nilIface]) ∧ Below w.heap.size w w' :=
  (Any.strconv_Atoi_ok Tryd.laysC172 s hmax v h w).mono fun e w' ⟨h2, h3⟩ => ⟨h2, by
    rcases h3 with rfl | ⟨t, rfl⟩
    · exact Below.refl _ _
    · exact Lib.bytesWorld_below _ _ _⟩
theorem atoi_no_d (s : ByteArray) (hlim : s.size ≤ 281474976710656) (h : ∀ v, Lib.atoiAll s.data.toList ≠ .ok v) (w : World) (hd : Door w) :
    Calls Tryd.prog 50 #[.string s] w fun e w' => ∃ x T p, e = .returned (.tuple #[.int .i64 x, .iface T (.pointer (some p))]) ∧ Below w.heap.size w w' := by
  cases ha : Lib.atoiAll s.data.toList with
  | ok v => exact absurd ha (h v)
  | «syntax» =>
    obtain ⟨p, hp⟩ := hd.es
    exact (Any.strconv_Atoi_syntax Tryd.laysC172 s hlim ha _ w hp (Or.inr ⟨_, _, rfl⟩)).mono fun e w' ⟨N, h1, _, _, h4⟩ => ⟨_, _, _, h1, h4⟩
  | range =>
    obtain ⟨p, hp⟩ := hd.er
    exact (Any.strconv_Atoi_range Tryd.laysC172 s hlim ha _ w hp (Or.inr ⟨_, _, rfl⟩)).mono fun e w' ⟨N, h1, _, _, h4⟩ => ⟨_, _, _, h1, h4⟩
end Go.Proofs.YtahcgbaaimmkfaaDoor
