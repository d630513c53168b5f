/- The library's conversions at this program, and what the listed variables hold. Conditions: the row's own. -/
import Derived.Test.YtjacphcnanopjaaDoorRows
import Derived.Test.YtjacphcnanopjaaDoorNumTextP
import Derived.Shelf.Strings.SplitShaped
import Derived.Shelf.Strings.OnBuilder
import Derived.Shelf.Strings.Builder2
import Derived.Shelf.Strings.BuilderK
import Derived.Shelf.Small.Wraps
import Derived.Shelf.Strconv.AtoiAll
import Derived.Shelf.Strconv.Itoa3
import Derived.Shelf.Lay
import Derived.Lib.AtoiErrMem
import Derived.Lib.AppendIntMem
import Derived.Ground.NamesProg
import Derived.Stop.LaidErr
import Derived.Lib.LaidTab
import Derived.MakeChecks
namespace Go.Proofs.YtjacphcnanopjaaDoor
open Go.Shelf Go.RowKit

shelf_lay LaysC.n172 Nm 172 at Tryd as Tryd.laysC172
shelf_lay LaysM.n171 Nm 171 at Tryd as Tryd.laysM171
shelf_lay Lays.n156 Nm 156 at Tryd as Tryd.laysJoin
shelf_lay LaysM.n146 Nm 146 at Tryd as Tryd.laysSplit
shelf_lay Lays.n138 Nm 138 at Tryd as Tryd.laysCount
shelf_lay Lays.n104 Nm 104 at Tryd as Tryd.laysCutS
theorem Tryd.laysWrite : Lays.n166 Tryd.prog Tryd.laysJoin_ren := { Tryd.laysJoin with }
theorem Tryd.laysString : Lays.n169 Tryd.prog Tryd.laysJoin_ren := { Tryd.laysJoin with }
theorem Tryd.extraJoin : Builder.Extra Tryd.prog Tryd.laysJoin_ren where
  sizeBuilder := by kernel_rfl
  liesBuilder := by kernel_rfl
  t5 := Tryd.underlying5
  a5 := Tryd.isAgg5
  z5 := Tryd.sizeOf5
  v5 := Tryd.zeroValue5
  infoByte := by kernel_rfl
  cellsByte := by kernel_rfl
  sizeByte := by kernel_rfl
  neB5 := by decide
theorem gPow : Tryd.prog.globalNamed "internal/strconv.uint64pow10" = some 3 := by kernel_rfl
theorem gPowT : (Tryd.prog.globals[3]?).map (·.type) = some 116 := by kernel_rfl
theorem gES : Tryd.prog.globalNamed "strconv.ErrSyntax" = some 4 := by kernel_rfl
theorem gEST : (Tryd.prog.globals[4]?).map (·.type) = some 67 := by kernel_rfl
theorem gER : Tryd.prog.globalNamed "strconv.ErrRange" = some 5 := by kernel_rfl
theorem gERT : (Tryd.prog.globals[5]?).map (·.type) = some 67 := by kernel_rfl
theorem cES : Tryd.prog.cellsOf 129 = 1 := by kernel_rfl
theorem cStr : Tryd.prog.cellsOf 9 = 1 := by kernel_rfl
theorem cU64 : Tryd.prog.cellsOf 36 = 1 := by kernel_rfl
theorem cPow : Tryd.prog.cellsOf 116 = 20 := by kernel_rfl
theorem starE : "*" ++ "errors.errorString" = "*errors.errorString" := by decide
theorem rowES (u : TypeId) (h : Tryd.prog.typeName? 3 u = some "*errors.errorString") : u = 127 :=
  typeName_ptr_named (nm := "errors.errorString") (by rw [starE]; kernel_rfl) (by kernel_rfl) (by decide) u (by rw [starE]; exact h)
theorem powD : (Rows.laid_internal_strconv_uint64pow10 : DataW Unit) = Lib.tabData .u64 Lib.pow10Tab := by rfl
/-- what the listed variables hold -/
structure Door (w : World) : Prop where
  tab : Lib.TabIs Tryd.prog w "internal/strconv.uint64pow10" .u64 Lib.pow10Tab
  es : ∃ p, w.cell? ⟨4, 0, none⟩ = some (.iface 127 p)
  er : ∃ p, w.cell? ⟨5, 0, none⟩ = some (.iface 127 p)
  mx : ∃ m, w.cell? ⟨0, 0, none⟩ = some (.int .i64 m)
abbrev laidL : List (String × DataW Unit) := [("math/bits.deBruijn32tab", Rows.laid_math_bits_deBruijn32tab), ("math/bits.deBruijn64tab", Rows.laid_math_bits_deBruijn64tab), ("internal/strconv.uint64pow10", Rows.laid_internal_strconv_uint64pow10), ("unicode/utf8.acceptRanges", Rows.laid_unicode_utf8_acceptRanges), ("strconv.ErrRange", Rows.laid_strconv_ErrRange), ("strconv.ErrSyntax", Rows.laid_strconv_ErrSyntax), ("unicode/utf8.first", Rows.laid_unicode_utf8_first)]
theorem Door.of_laid {W : World} (h : laidMetH Tryd.prog laidL W) (hs : W.ShapedOpen Tryd.prog) : Door W := by
  rw [MakeChecks.laidMetH_plain _ _ _ (by kernel_rfl)] at h
  have h3 := h.tail.tail
  have h5 := h3.tail.tail
  have h6 := h5.tail
  obtain ⟨a0, s0, hv0, _⟩ := laid_sentinel h5 gER gERT Tryd.underlying67 rowES Tryd.underlying127 Tryd.underlying129 rfl rfl Tryd.underlying9 cES cStr
  obtain ⟨a1, s1, hv1, _⟩ := laid_sentinel h6 gES gEST Tryd.underlying67 rowES Tryd.underlying127 Tryd.underlying129 rfl rfl Tryd.underlying9 cES cStr
  have h7 : laidMet Tryd.prog (("internal/strconv.uint64pow10", Lib.tabData .u64 Lib.pow10Tab) :: [("unicode/utf8.acceptRanges", Rows.laid_unicode_utf8_acceptRanges), ("strconv.ErrRange", Rows.laid_strconv_ErrRange), ("strconv.ErrSyntax", Rows.laid_strconv_ErrSyntax), ("unicode/utf8.first", Rows.laid_unicode_utf8_first)]) W := by
    rw [← powD]; exact h3
  exact ⟨Lib.tabIs_of_head gPow gPowT Tryd.underlying116 Tryd.underlying36 cU64 cPow h7,
    ⟨_, by have h0 := World.var?_cell gES hv1 0; simpa using h0⟩, ⟨_, by have h0 := World.var?_cell gER hv0 0; simpa using h0⟩, Tryd.laysSplit.s1_3 W hs⟩
theorem varBelow {n : String} {g : Nat} {cs : Array Value} {w w' : World} (hg : Tryd.prog.globalNamed n = some g) (h : w.var? Tryd.prog n = some cs) (hb : Below w.heap.size w w') (hl : g < w.heap.size) : w'.var? Tryd.prog n = some cs := by
  unfold World.var? at h ⊢
  rw [hg] at h ⊢
  simp only [Option.bind_some] at h ⊢
  rw [hb.block g hl]
  exact h
theorem Door.below {w w' : World} (h : Door w) (hb : Below w.heap.size w w') : Door w' := by
  obtain ⟨p, hp⟩ := h.es
  obtain ⟨q, hq⟩ := h.er
  obtain ⟨m, hm⟩ := h.mx
  refine ⟨?_, ⟨p, (hb.cell (World.block_lt_of_cell? w _ hp)).trans hp⟩, ⟨q, (hb.cell (World.block_lt_of_cell? w _ hq)).trans hq⟩, ⟨m, (hb.cell (World.block_lt_of_cell? w _ hm)).trans hm⟩⟩
  have h0 := h.tab
  unfold Lib.TabIs at h0 ⊢
  exact varBelow gPow h0 hb (by
    have := h.tab.cell gPow 0 (by decide)
    exact World.block_lt_of_cell? w _ this)
theorem itoa_d (n : Int) (h0 : -9223372036854775808 ≤ n) (h1 : n ≤ 9223372036854775807) (w : World) (h : Door w) :
    Calls Tryd.prog 61 #[.int .i64 n] w fun e w' => e = .returned (.string ⟨(Lib.itoa n).toArray⟩) ∧ Below w.heap.size w w' :=
  (Any.strconv_Itoa Tryd.laysM171 n h0 h1 w h.tab).mono fun e w' ⟨h2, k, os, h3⟩ => ⟨h2, by rw [h3]; exact Lib.below_grow _ w (Nat.le_refl _) k os⟩
theorem atoi_ok_d (s : ByteArray) (hmax : s.size ≤ 9223372036854775806) (v : Int) (h : Lib.atoiAll s.data.toList = .ok v) (w : World) :
    Calls Tryd.prog 72 #[.string s] w fun e w' => e = .returned (.tuple #[.int .i64 v, .nilIface]) ∧ Below w.heap.size w w' :=
  (Any.strconv_Atoi_ok Tryd.laysC172 s hmax v h w).mono fun e w' ⟨h2, h3⟩ => ⟨h2, by
    rcases h3 with rfl | ⟨t, rfl⟩
    · exact Below.refl _ _
    · exact Lib.bytesWorld_below _ _ _⟩
theorem atoi_no_d (s : ByteArray) (hlim : s.size ≤ 281474976710656) (h : ∀ v, Lib.atoiAll s.data.toList ≠ .ok v) (w : World) (hd : Door w) :
    Calls Tryd.prog 72 #[.string s] w fun e w' => ∃ x T p, e = .returned (.tuple #[.int .i64 x, .iface T (.pointer (some p))]) ∧ Below w.heap.size w w' := by
  cases ha : Lib.atoiAll s.data.toList with
  | ok v => exact absurd ha (h v)
  | «syntax» =>
    obtain ⟨p, hp⟩ := hd.es
    exact (Any.strconv_Atoi_syntax Tryd.laysC172 s hlim ha _ w hp (Or.inr ⟨_, _, rfl⟩)).mono fun e w' ⟨N, h1, _, _, h4⟩ => ⟨_, _, _, h1, h4⟩
  | range =>
    obtain ⟨p, hp⟩ := hd.er
    exact (Any.strconv_Atoi_range Tryd.laysC172 s hlim ha _ w hp (Or.inr ⟨_, _, rfl⟩)).mono fun e w' ⟨N, h1, _, _, h4⟩ => ⟨_, _, _, h1, h4⟩
end Go.Proofs.YtjacphcnanopjaaDoor
