/- A search in memory: its record, two ways of spots, three maps. No conditions. -/
import Derived.Test.YtfcpfcgcfaacnaaSNdP
import Derived.Test.YtfcpfcgcfaacnaaSPrNext
import Derived.Test.YtfcpfcgcfaacnaaSPrWholeP
namespace Go.Proofs.Ytfcpfcgcfaacnaa
open Go.RowKit Go.WideMaps
abbrev TSr : Nat := 109
abbrev TSp : Nat := 143
theorem infoSp : (Try.prog.info? TSp).map (fun i => (i.zero, i.size, i.bytes)) = some (some (.agg #[.int .i64 0, .int .i64 0, .int .i64 0, .slice none 0 0, .int .i64 0]), 5, 56) := by kernel_rfl
structure PMap (w : World) (b n : Nat) (l : List PP) : Prop where
 own : ∃ D : DataW Unit, w.ownsMap (H := Unit) Try.prog 82 (plainElem Try.prog 3) b n D ∧ Go.Maps.IsMap D ∧ ∀ q, okPP q → Go.Maps.has D (qkey q) = decide (q ∈ l) ∧ ∀ z, D.atKey (qkey q) z = if q ∈ l then .lit (.int .i64 (l.idxOf q : Int)) else z
 nodup : l.Nodup
 ok : ∀ p ∈ l, okPP p
theorem PMap.lt {w : World} {b n : Nat} {l : List PP} (h : PMap w b n l) : b < w.heap.size := by
 obtain ⟨D, h1, _⟩ := h.own
 exact World.ownsMap.lt h1
theorem PMap.keep {w w' : World} {b n : Nat} {l : List PP} (h : PMap w b n l) (hk : w'.heap[b]? = w.heap[b]?) : PMap w' b n l := by
 obtain ⟨⟨D, ⟨es, cl, hb, r⟩, h1⟩, h2, h3⟩ := h
 exact ⟨⟨D, ⟨es, cl, hk.trans hb, r⟩, h1⟩, h2, h3⟩
theorem PMap.keeps {w w' : World} {b n : Nat} {l : List PP} {S : Nat → Prop} (h : PMap w b n l) (hk : Keeps w w' S) (hn : ¬ S b) : PMap w' b n l := h.keep (hk.block b h.lt hn)
theorem PMap.made (w : World) : PMap (w.alloc (.map #[] 0)) w.heap.size 0 [] := ⟨⟨.map [], World.ownsMap_made _ _ _ _, Go.Maps.isMap_empty, fun q _ => ⟨rfl, fun z => rfl⟩⟩, List.nodup_nil, by simp⟩
theorem PMap.look {w : World} {b n : Nat} {l : List PP} (h : PMap w b n l) {p : PP} (hp : okPP p) :
  (Instr.lookup 104 (.map (some b)) (ppv p) true).run Try.prog w = .ok (.tuple #[.int .i64 (if p ∈ l then (l.idxOf p : Int) else 0), .bool (decide (p ∈ l))]) w := by
 obtain ⟨D, hD, _, hl⟩ := h.own
 obtain ⟨h1, h2⟩ := hl p hp
 obtain ⟨v, ps, hrun, hv⟩ := hD.look_ok keyedQ Try.underlying104 (zeroInt w) (zd := .lit (.int .i64 0)) (zp := []) (plainElem_int Try.underlying3 (by decide)) (keyOf_qq hp)
 obtain ⟨c, rfl, hc, _⟩ := plainElem_int_inv Try.underlying3 hv
 simp only [Prod.mk.injEq] at hc
 rw [h2] at hc
 rw [hrun, h1]
 by_cases hm : p ∈ l
 ·rw [if_pos hm] at hc ⊢
  simp only [DataW.lit.injEq, Lit.int.injEq, true_and] at hc
  rw [hc.1]
 ·rw [if_neg hm] at hc ⊢
  simp only [DataW.lit.injEq, Lit.int.injEq, true_and] at hc
  rw [hc.1]
theorem PMap.put {w : World} {b n : Nat} {l : List PP} (h : PMap w b n l) {p : PP} (hp : okPP p) (hm : p ∉ l) (hn : n ≤ 1000000000) (hl : l.length ≤ 1000000000) :
  ∃ w', (Instr.mapUpdate 104 (.map (some b)) (ppv p) (.int .i64 (l.length : Int))).run Try.prog w = .ok () w' ∧ PMap w' b (n + 1) (l ++ [p]) ∧ w.grownBy w' (some b) := by
 obtain ⟨D, hD, hM, hlk⟩ := h.own
 obtain ⟨w', hrun, ho, hg⟩ := hD.update keyedQ Try.underlying104 (by unfold maxLen; omega) (keyOf_qq hp) (plainElem_int (H := Unit) Try.underlying3 (a := (l.length : Int)) (by simp [Lit.wf, IntKind.min, IntKind.max, IntKind.signed, IntKind.bits]; omega))
 refine ⟨w', hrun, ⟨⟨_, ho, hM.put _ _, fun q hq => ?_⟩, nodup_snoc h.nodup hm, fun x hx => ?_⟩, hg⟩
 ·by_cases he : q = p
  ·subst he
   rw [Go.Maps.has_put_same hM (qkey_is _)]
   refine ⟨by simp, fun z => ?_⟩
   rw [Go.Maps.atKey_put_same hM (qkey_is _), if_pos (by simp), List.idxOf_append, if_neg hm]
   simp
  ·have hk : qkey q ≠ qkey p := fun e => he (qkey_inj hq hp e)
   obtain ⟨i1, i2⟩ := hlk q hq
   rw [Go.Maps.has_put_other hk, i1]
   refine ⟨by simp [he], fun z => ?_⟩
   rw [Go.Maps.atKey_put_other hk, i2]
   by_cases hm2 : q ∈ l
   ·rw [if_pos hm2, if_pos (by simp [hm2]), List.idxOf_append, if_pos hm2]
   ·rw [if_neg hm2, if_neg (by simp [hm2, he])]
 ·rcases List.mem_append.1 hx with h1 | h1
  ·exact h.ok x h1
  ·simp at h1; subst h1; exact hp
theorem PMap.drop {w : World} {b n : Nat} {l : List PP} {p : PP} (h : PMap w b n (l ++ [p])) (ty : TypeId) :
  ∃ w', (Builtin.delete_ #[104, 82] ty #[.map (some b), ppv p]).run Try.prog w = .ok (.tuple #[]) w' ∧ PMap w' b n l ∧ w.grownBy w' (some b) := by
 obtain ⟨D, hD, hM, hlk⟩ := h.own
 have hp : okPP p := h.ok p (by simp)
 have hnd := h.nodup
 rw [List.nodup_append] at hnd
 have hpl : p ∉ l := fun hh => hnd.2.2 p hh p (by simp) rfl
 obtain ⟨w', hrun, ho, hg⟩ := hD.drop keyedQ Try.underlying104 (keyOf_qq hp) ty
 refine ⟨w', hrun, ⟨⟨_, ho, hM.del _, fun q hq => ?_⟩, hnd.1, fun x hx => h.ok x (by simp [hx])⟩, hg.grown⟩
 by_cases he : q = p
 ·subst he
  rw [Go.Maps.has_del_same]
  refine ⟨by simp [hpl], fun z => ?_⟩
  rw [Go.Maps.atKey_del_same, if_neg hpl]
 ·have hk : qkey q ≠ qkey p := fun e => he (qkey_inj hq hp e)
  obtain ⟨i1, i2⟩ := hlk q hq
  rw [Go.Maps.has_del_other hk, i1]
  refine ⟨by simp [he], fun z => ?_⟩
  rw [Go.Maps.atKey_del_other hk, i2]
  by_cases hm2 : q ∈ l
  ·rw [if_pos hm2, if_pos (by simp [hm2]), List.idxOf_append, if_pos hm2]
  ·rw [if_neg hm2, if_neg (by simp [hm2, he])]
abbrev SpR := (PP × Nat) × Option Addr × Nat
def spcell (nx : PP → List PP) (e : SpR) : List Value := [.int .i64 e.1.1.node, .int .i64 e.1.1.state, .int .i64 e.1.1.turn, .slice e.2.1 (nx e.1.1).length e.2.2, .int .i64 (e.1.2 : Int)]
def spcells (nx : PP → List PP) (S : List SpR) : List Value := S.flatMap (spcell nx)
theorem spcells_snoc (nx : PP → List PP) (S : List SpR) (e : SpR) : spcells nx (S ++ [e]) = spcells nx S ++ spcell nx e := by simp [spcells]
theorem spcells_len (nx : PP → List PP) (S : List SpR) : (spcells nx S).length = S.length * 5 := by
 induction S with
 | nil => rfl
 | cons e S ih =>
  simp only [spcells, List.flatMap_cons, List.length_append, List.length_cons] at ih ⊢
  rw [ih]
  show 5 + S.length * 5 = _
  omega
theorem spcells_at (nx : PP → List PP) : ∀ (S : List SpR) (i : Nat) (hi : i < S.length), (spcells nx S)[i * 5]? = some (.int .i64 S[i].1.1.node) ∧ (spcells nx S)[i * 5 + 1]? = some (.int .i64 S[i].1.1.state) ∧ (spcells nx S)[i * 5 + 2]? = some (.int .i64 S[i].1.1.turn) ∧ (spcells nx S)[i * 5 + 3]? = some (.slice S[i].2.1 (nx S[i].1.1).length S[i].2.2) ∧ (spcells nx S)[i * 5 + 4]? = some (.int .i64 (S[i].1.2 : Int))
 | e :: S, 0, _ => by simp [spcells, spcell]
 | e :: S, i + 1, hi => by
  have := spcells_at nx S i (by simpa using hi)
  simp only [spcells, List.flatMap_cons, List.getElem_cons_succ] at this ⊢
  have e5 : (spcell nx e).length = 5 := rfl
  rw [show (i + 1) * 5 = 5 + i * 5 by omega, show 5 + i * 5 + 1 = 5 + (i * 5 + 1) by omega, show 5 + i * 5 + 2 = 5 + (i * 5 + 2) by omega, show 5 + i * 5 + 3 = 5 + (i * 5 + 3) by omega, show 5 + i * 5 + 4 = 5 + (i * 5 + 4) by omega]
  rw [List.getElem?_append_right (by omega), List.getElem?_append_right (by omega), List.getElem?_append_right (by omega), List.getElem?_append_right (by omega), List.getElem?_append_right (by omega), e5]
  simpa using this
theorem spcells_at_set (nx : PP → List PP) (S : List SpR) (x : PP) (k : Nat) (a : Option Addr) (c : Nat) : (spcells nx (S ++ [((x, k), a, c)])).set (S.length * 5 + 4) (.int .i64 ((k + 1 : Nat) : Int)) = spcells nx (S ++ [((x, k + 1), a, c)]) := by
 rw [spcells_snoc, spcells_snoc, List.set_append_right _ _ (by rw [spcells_len]; omega), spcells_len]
 have e : S.length * 5 + 4 - S.length * 5 = 4 := by omega
 rw [e]
 rfl
theorem OwnR.shrink {w : World} {base e sz g n cap m : Nat} {cells : List Value} (h : OwnR w base e sz (some ⟨g, 0, none⟩) n cap cells) (hm : m ≤ n) : OwnR w base e sz (some ⟨g, 0, none⟩) m cap (cells.take (m * sz)) := by
 have hl := OwnR.len h
 unfold OwnR at h ⊢
 refine ⟨?_, .inr ?_⟩
 ·rw [List.length_take, hl]
  have : m * sz ≤ n * sz := Nat.mul_le_mul_right _ hm
  omega
 ·rcases h.2 with ⟨hv, _⟩ | ⟨g', cap', cur, hv, hb, hh, h1, h2, h3, h4⟩
  ·simp at hv
  ·simp at hv
   obtain ⟨rfl, rfl⟩ := hv
   refine ⟨g, cap, cur, rfl, hb, hh, by omega, h2, h3, ?_⟩
   rw [← h4, List.take_take]
   have : m * sz ≤ n * sz := Nat.mul_le_mul_right _ hm
   rw [Nat.min_eq_left this]
structure WayT (w : World) (B : Nat) (nx : PP → List PP) (T : Nat → Nat) (k : Nat) (a : Option Addr) (c : Nat) (S : List SpR) : Prop where
 own : OwnR w B TSp 5 a S.length c (spcells nx S)
 tag : ∀ j, OB a S.length c = some j → T j = k
 nexts : ∀ e ∈ S, PpsAt w e.2.1 (nx e.1.1) ∧ (∀ ad, e.2.1 = some ad → T ad.block = 6 ∧ ad.block < w.heap.size)
theorem PpsAt.keeps {w w' : World} {a : Option Addr} {l : List PP} {S : Nat → Prop} (h : PpsAt w a l) (hk : Keeps w w' S) (hn : ∀ ad, a = some ad → ¬ S ad.block) : PpsAt w' a l := fun h0 => by
 obtain ⟨b, off, ha, hc⟩ := h h0
 have hb := hk.block b (World.block_lt_of_cell? w _ (hc 0 h0).1) (hn _ ha)
 refine ⟨b, off, ha, fun i hi => ?_⟩
 obtain ⟨c0, c1, c2⟩ := hc i hi
 rw [World.cell?_of_block (a := ⟨b, off + i * 3, none⟩) hb, World.cell?_of_block (a := ⟨b, off + i * 3 + 1, none⟩) hb, World.cell?_of_block (a := ⟨b, off + i * 3 + 2, none⟩) hb]
 exact ⟨c0, c1, c2⟩
theorem WayT.keeps {w w' : World} {B : Nat} {nx : PP → List PP} {T : Nat → Nat} {k : Nat} {a : Option Addr} {c : Nat} {S : List SpR} (h : WayT w B nx T k a c S) {m kn : Nat} (hmk : m ≠ k) (hm6 : m ≠ 6) (hk : Keeps w w' (fun j => T j = m ∧ B ≤ j)) : WayT w' B nx (retag T w.heap.size kn) k a c S := by
 refine ⟨OwnR.keeps h.own hk (fun j hj e => hmk (e.1.symm.trans (h.tag j hj))), fun j hj => ?_, fun e he => ?_⟩
 ·rw [retag_old (OwnR.lt h.own hj).2]
  exact h.tag j hj
 ·obtain ⟨h1, h2⟩ := h.nexts e he
  refine ⟨h1.keeps hk (fun ad had hh => hm6 (hh.1.symm.trans (h2 ad had).1)), fun ad had => ?_⟩
  obtain ⟨h3, h4⟩ := h2 ad had
  exact ⟨by rw [retag_old h4]; exact h3, Nat.lt_of_lt_of_le h4 hk.size⟩
structure SX where
 a0 : Option Addr
 c0 : Nat
 a1 : Option Addr
 c1 : Nat
 mp : Nat
 pn : Nat
 mr : Nat
 mm : Nat
structure KP where
 f : Option Addr → Nat → List SpR → Prop
 lo : Nat
 hi : Nat
 w : World
def KP.keep (k : KP) (f : Option Addr → Nat → List SpR → Prop) : KP := ⟨f, k.lo, k.hi, k.w⟩
structure Zn where
 lo : Nat
 hi : Nat
 wz : World
 kp : KP
structure SrT (k : Nat) (T : Nat → Nat) (W : World) (sB : Nat) (Z : Zn) (nx : PP → List PP) (X : SX) (S0 S1 : List SpR) (pl re ma : List PP) (rv : List Value) (w : World) : Prop where
 low : Below W.heap.size W w
 row : k ≠ 0 → RowAt w sB TSr rv
 hs : T sB = 0 ∧ W.heap.size ≤ sB ∧ sB < w.heap.size
 w0 : k ≠ 1 → WayT w W.heap.size nx T 1 X.a0 X.c0 S0
 w1 : k ≠ 2 → WayT w W.heap.size nx T 2 X.a1 X.c1 S1
 mp : k ≠ 3 → PMap w X.mp X.pn pl
 hp : T X.mp = 3 ∧ W.heap.size ≤ X.mp ∧ X.mp < w.heap.size
 mr : k ≠ 4 → QMap w X.mr re
 hr : T X.mr = 4 ∧ W.heap.size ≤ X.mr ∧ X.mr < w.heap.size
 mm : k ≠ 5 → QMap w X.mm ma
 hm : T X.mm = 5 ∧ W.heap.size ≤ X.mm ∧ X.mm < w.heap.size
 z : k ≠ 7 → ∀ j, Z.lo ≤ j → j < Z.hi → T j = 7 ∧ W.heap.size ≤ j ∧ j < w.heap.size ∧ w.heap[j]? = Z.wz.heap[j]?
 y : k ≠ 8 → ∀ j, Z.kp.lo ≤ j → j < Z.kp.hi → T j = 8 ∧ W.heap.size ≤ j ∧ j < w.heap.size ∧ w.heap[j]? = Z.kp.w.heap[j]?
section
variable {T : Nat → Nat} {W w w' wA : World} {sB : Nat} {Z : Zn} {nx : PP → List PP} {X : SX} {S0 S1 : List SpR} {pl re ma : List PP} {rv : List Value}
theorem SrT.touch (h : SrT 99 T W sB Z nx X S0 S1 pl re ma rv w) (k : Nat) (kn : Nat) (hk6 : k ≠ 6) (hk : Keeps w w' (fun j => T j = k ∧ W.heap.size ≤ j)) : SrT k (retag T w.heap.size kn) W sB Z nx X S0 S1 pl re ma rv w' := by
 have hz := hk.size
 have old : ∀ {j t : Nat}, T j = t ∧ W.heap.size ≤ j ∧ j < w.heap.size → retag T w.heap.size kn j = t ∧ W.heap.size ≤ j ∧ j < w'.heap.size := fun ⟨a, b, c⟩ => ⟨by rw [retag_old c]; exact a, b, by omega⟩
 refine ⟨hk.below h.low (fun j e => e.2), fun hn => (h.row (by decide)).keeps hk (fun e => hn (e.1.symm.trans h.hs.1)), old h.hs, fun hn => (h.w0 (by decide)).keeps hn hk6 hk, fun hn => (h.w1 (by decide)).keeps hn hk6 hk, fun hn => (h.mp (by decide)).keeps hk (fun e => hn (e.1.symm.trans h.hp.1)), old h.hp, fun hn => (h.mr (by decide)).keeps hk (fun e => hn (e.1.symm.trans h.hr.1)), old h.hr, fun hn => (h.mm (by decide)).keeps hk (fun e => hn (e.1.symm.trans h.hm.1)), old h.hm, fun hn j h1 h2 => ?_, fun hn j h1 h2 => ?_⟩
 ·obtain ⟨z1, z2, z3, z4⟩ := h.z (by decide) j h1 h2
  exact ⟨by rw [retag_old z3]; exact z1, z2, by omega, (hk.block j z3 (fun e => hn (e.1.symm.trans z1))).trans z4⟩
 ·obtain ⟨z1, z2, z3, z4⟩ := h.y (by decide) j h1 h2
  exact ⟨by rw [retag_old z3]; exact z1, z2, by omega, (hk.block j z3 (fun e => hn (e.1.symm.trans z1))).trans z4⟩
theorem SrT.full {k : Nat} (h : SrT k T W sB Z nx X S0 S1 pl re ma rv w) (hk : 8 < k) : SrT 99 T W sB Z nx X S0 S1 pl re ma rv w :=
 ⟨h.low, fun _ => h.row (by omega), h.hs, fun _ => h.w0 (by omega), fun _ => h.w1 (by omega), fun _ => h.mp (by omega), h.hp, fun _ => h.mr (by omega), h.hr, fun _ => h.mm (by omega), h.hm, fun _ => h.z (by omega), fun _ => h.y (by omega)⟩
def SrAt (W : World) (sB : Nat) (Z : Zn) (nx : PP → List PP) (X : SX) (S0 S1 : List SpR) (pl re ma : List PP) (rv : List Value) (w : World) : Prop := ∃ T, SrT 99 T W sB Z nx X S0 S1 pl re ma rv w
theorem SrAt.low (h : SrAt W sB Z nx X S0 S1 pl re ma rv w) : Below W.heap.size W w := by obtain ⟨T, h⟩ := h; exact h.low
theorem SrAt.row (h : SrAt W sB Z nx X S0 S1 pl re ma rv w) : RowAt w sB TSr rv := by obtain ⟨T, h⟩ := h; exact h.row (by decide)
theorem SrAt.hs (h : SrAt W sB Z nx X S0 S1 pl re ma rv w) : W.heap.size ≤ sB ∧ sB < w.heap.size := by obtain ⟨T, h⟩ := h; exact h.hs.2
theorem SrAt.mp (h : SrAt W sB Z nx X S0 S1 pl re ma rv w) : PMap w X.mp X.pn pl := by obtain ⟨T, h⟩ := h; exact h.mp (by decide)
theorem SrAt.mr (h : SrAt W sB Z nx X S0 S1 pl re ma rv w) : QMap w X.mr re := by obtain ⟨T, h⟩ := h; exact h.mr (by decide)
theorem SrAt.mm (h : SrAt W sB Z nx X S0 S1 pl re ma rv w) : QMap w X.mm ma := by obtain ⟨T, h⟩ := h; exact h.mm (by decide)
theorem SrAt.own0 (h : SrAt W sB Z nx X S0 S1 pl re ma rv w) : OwnR w W.heap.size TSp 5 X.a0 S0.length X.c0 (spcells nx S0) := by obtain ⟨T, h⟩ := h; exact (h.w0 (by decide)).own
theorem SrAt.own1 (h : SrAt W sB Z nx X S0 S1 pl re ma rv w) : OwnR w W.heap.size TSp 5 X.a1 S1.length X.c1 (spcells nx S1) := by obtain ⟨T, h⟩ := h; exact (h.w1 (by decide)).own
theorem SrAt.next0 (h : SrAt W sB Z nx X S0 S1 pl re ma rv w) : ∀ e ∈ S0, PpsAt w e.2.1 (nx e.1.1) := by obtain ⟨T, h⟩ := h; exact fun e he => ((h.w0 (by decide)).nexts e he).1
theorem SrAt.next1 (h : SrAt W sB Z nx X S0 S1 pl re ma rv w) : ∀ e ∈ S1, PpsAt w e.2.1 (nx e.1.1) := by obtain ⟨T, h⟩ := h; exact fun e he => ((h.w1 (by decide)).nexts e he).1
theorem SrAt.below (h : SrAt W sB Z nx X S0 S1 pl re ma rv w) (hb : Below w.heap.size w w') : SrAt W sB Z nx X S0 S1 pl re ma rv w' := by
 obtain ⟨T, h⟩ := h
 exact ⟨_, (h.touch 77 6 (by decide) (Keeps.of_below hb)).full (by decide)⟩
theorem SrAt.set (h : SrAt W sB Z nx X S0 S1 pl re ma rv w) (j : Nat) (v : Value) : SrAt W sB Z nx X S0 S1 pl re ma (rv.set j v) (w.setCell ⟨sB, j, none⟩ v) := by
 obtain ⟨T, h⟩ := h
 have ht := h.touch 0 6 (by decide) (Keeps.set w sB j v ⟨h.hs.1, h.hs.2.1⟩)
 exact ⟨_, ⟨ht.low, fun _ => (h.row (by decide)).set j v, ht.hs, fun _ => ht.w0 (by decide), fun _ => ht.w1 (by decide), fun _ => ht.mp (by decide), ht.hp, fun _ => ht.mr (by decide), ht.hr, fun _ => ht.mm (by decide), ht.hm, fun _ => ht.z (by decide), fun _ => ht.y (by decide)⟩⟩
theorem SrAt.putR {re' : List PP} (h : SrAt W sB Z nx X S0 S1 pl re ma rv w) (hg : w.grownBy w' (some X.mr)) (hq : QMap w' X.mr re') : SrAt W sB Z nx X S0 S1 pl re' ma rv w' := by
 obtain ⟨T, h⟩ := h
 have ht := h.touch 4 6 (by decide) (Keeps.of_grown hg (fun j e => by cases e; exact ⟨h.hr.1, h.hr.2.1⟩))
 exact ⟨_, ⟨ht.low, fun _ => ht.row (by decide), ht.hs, fun _ => ht.w0 (by decide), fun _ => ht.w1 (by decide), fun _ => ht.mp (by decide), ht.hp, fun _ => hq, ht.hr, fun _ => ht.mm (by decide), ht.hm, fun _ => ht.z (by decide), fun _ => ht.y (by decide)⟩⟩
theorem SrAt.putM {ma' : List PP} (h : SrAt W sB Z nx X S0 S1 pl re ma rv w) (hg : w.grownBy w' (some X.mm)) (hq : QMap w' X.mm ma') : SrAt W sB Z nx X S0 S1 pl re ma' rv w' := by
 obtain ⟨T, h⟩ := h
 have ht := h.touch 5 6 (by decide) (Keeps.of_grown hg (fun j e => by cases e; exact ⟨h.hm.1, h.hm.2.1⟩))
 exact ⟨_, ⟨ht.low, fun _ => ht.row (by decide), ht.hs, fun _ => ht.w0 (by decide), fun _ => ht.w1 (by decide), fun _ => ht.mp (by decide), ht.hp, fun _ => ht.mr (by decide), ht.hr, fun _ => hq, ht.hm, fun _ => ht.z (by decide), fun _ => ht.y (by decide)⟩⟩
theorem SrAt.putP {pl' : List PP} {n' : Nat} (h : SrAt W sB Z nx X S0 S1 pl re ma rv w) (hg : w.grownBy w' (some X.mp)) (hq : PMap w' X.mp n' pl') : SrAt W sB Z nx { X with pn := n' } S0 S1 pl' re ma rv w' := by
 obtain ⟨T, h⟩ := h
 have ht := h.touch 3 6 (by decide) (Keeps.of_grown hg (fun j e => by cases e; exact ⟨h.hp.1, h.hp.2.1⟩))
 exact ⟨_, ⟨ht.low, fun _ => ht.row (by decide), ht.hs, fun _ => ht.w0 (by decide), fun _ => ht.w1 (by decide), fun _ => hq, ht.hp, fun _ => ht.mr (by decide), ht.hr, fun _ => ht.mm (by decide), ht.hm, fun _ => ht.z (by decide), fun _ => ht.y (by decide)⟩⟩
theorem SrAt.apart (h : SrAt W sB Z nx X S0 S1 pl re ma rv w) : X.mp ≠ sB ∧ X.mr ≠ sB ∧ X.mm ≠ sB ∧ (∀ j, OB X.a0 S0.length X.c0 = some j → j ≠ sB) ∧ (∀ j, OB X.a1 S1.length X.c1 = some j → j ≠ sB) := by
 obtain ⟨T, h⟩ := h
 refine ⟨fun e => ?_, fun e => ?_, fun e => ?_, fun j hj e => ?_, fun j hj e => ?_⟩
 ·have h1 := h.hp.1; rw [e, h.hs.1] at h1; cases h1
 ·have h1 := h.hr.1; rw [e, h.hs.1] at h1; cases h1
 ·have h1 := h.hm.1; rw [e, h.hs.1] at h1; cases h1
 ·have h1 := (h.w0 (by decide)).tag j hj; rw [e, h.hs.1] at h1; cases h1
 ·have h1 := (h.w1 (by decide)).tag j hj; rw [e, h.hs.1] at h1; cases h1
theorem SrAt.push0 {a' : Option Addr} {c' : Nat} {e : SpR} (h : SrAt W sB Z nx X S0 S1 pl re ma rv w) (hA : Below w.heap.size w wA) (hn : PpsAt wA e.2.1 (nx e.1.1)) (hnb : ∀ ad, e.2.1 = some ad → w.heap.size ≤ ad.block ∧ ad.block < wA.heap.size)
  (ho : OwnR w' W.heap.size TSp 5 a' (S0.length + 1) c' (spcells nx S0 ++ spcell nx e)) (hg : wA.grownBy w' (OB X.a0 S0.length X.c0)) (hat : OB a' (S0.length + 1) c' = OB X.a0 S0.length X.c0 ∨ OB a' (S0.length + 1) c' = some wA.heap.size) : SrAt W sB Z nx { X with a0 := a', c0 := c' } (S0 ++ [e]) S1 pl re ma rv w' := by
 obtain ⟨T, h⟩ := h
 have h1 := (h.touch 77 6 (by decide) (Keeps.of_below hA)).full (by decide)
 have hw := h1.w0 (by decide)
 have hk : Keeps wA w' (fun j => retag T w.heap.size 6 j = 1 ∧ W.heap.size ≤ j) := Keeps.of_grown hg (fun j hj => ⟨hw.tag j hj, (OwnR.lt hw.own hj).1⟩)
 have ht := h1.touch 1 1 (by decide) hk
 refine ⟨_, ⟨ht.low, fun _ => ht.row (by decide), ht.hs, fun _ => ⟨?_, fun j hj => ?_, fun x hx => ?_⟩, fun _ => ht.w1 (by decide), fun _ => ht.mp (by decide), ht.hp, fun _ => ht.mr (by decide), ht.hr, fun _ => ht.mm (by decide), ht.hm, fun _ => ht.z (by decide), fun _ => ht.y (by decide)⟩⟩
 ·rw [spcells_snoc, List.length_append]; exact ho
 ·have hj' : OB a' (S0.length + 1) c' = some j := by rw [List.length_append] at hj; exact hj
  rcases hat with e1 | e1
  ·rw [e1] at hj'
   rw [retag_old (OwnR.lt hw.own hj').2]
   exact hw.tag j hj'
  ·rw [e1] at hj'
   cases hj'
   exact retag_new (Nat.le_refl _)
 ·have hkk : ∀ y : SpR, PpsAt wA y.2.1 (nx y.1.1) → (∀ ad, y.2.1 = some ad → retag T w.heap.size 6 ad.block = 6 ∧ ad.block < wA.heap.size) → PpsAt w' y.2.1 (nx y.1.1) ∧ (∀ ad, y.2.1 = some ad → retag (retag T w.heap.size 6) wA.heap.size 1 ad.block = 6 ∧ ad.block < w'.heap.size) := fun y q1 q2 =>
   ⟨q1.keeps hk (fun ad had hh => by have := (q2 ad had).1; rw [this] at hh; cases hh.1), fun ad had => ⟨by rw [retag_old (q2 ad had).2]; exact (q2 ad had).1, Nat.lt_of_lt_of_le (q2 ad had).2 hk.size⟩⟩
  rcases List.mem_append.1 hx with hx | hx
  ·exact hkk x (hw.nexts x hx).1 (hw.nexts x hx).2
  ·rw [List.mem_singleton] at hx
   subst hx
   exact hkk _ hn (fun ad had => ⟨retag_new (hnb ad had).1, (hnb ad had).2⟩)
theorem SrAt.push1 {a' : Option Addr} {c' : Nat} {e : SpR} (h : SrAt W sB Z nx X S0 S1 pl re ma rv w) (hA : Below w.heap.size w wA) (hn : PpsAt wA e.2.1 (nx e.1.1)) (hnb : ∀ ad, e.2.1 = some ad → w.heap.size ≤ ad.block ∧ ad.block < wA.heap.size)
  (ho : OwnR w' W.heap.size TSp 5 a' (S1.length + 1) c' (spcells nx S1 ++ spcell nx e)) (hg : wA.grownBy w' (OB X.a1 S1.length X.c1)) (hat : OB a' (S1.length + 1) c' = OB X.a1 S1.length X.c1 ∨ OB a' (S1.length + 1) c' = some wA.heap.size) : SrAt W sB Z nx { X with a1 := a', c1 := c' } S0 (S1 ++ [e]) pl re ma rv w' := by
 obtain ⟨T, h⟩ := h
 have h1 := (h.touch 77 6 (by decide) (Keeps.of_below hA)).full (by decide)
 have hw := h1.w1 (by decide)
 have hk : Keeps wA w' (fun j => retag T w.heap.size 6 j = 2 ∧ W.heap.size ≤ j) := Keeps.of_grown hg (fun j hj => ⟨hw.tag j hj, (OwnR.lt hw.own hj).1⟩)
 have ht := h1.touch 2 2 (by decide) hk
 refine ⟨_, ⟨ht.low, fun _ => ht.row (by decide), ht.hs, fun _ => ht.w0 (by decide), fun _ => ⟨?_, fun j hj => ?_, fun x hx => ?_⟩, fun _ => ht.mp (by decide), ht.hp, fun _ => ht.mr (by decide), ht.hr, fun _ => ht.mm (by decide), ht.hm, fun _ => ht.z (by decide), fun _ => ht.y (by decide)⟩⟩
 ·rw [spcells_snoc, List.length_append]; exact ho
 ·have hj' : OB a' (S1.length + 1) c' = some j := by rw [List.length_append] at hj; exact hj
  rcases hat with e1 | e1
  ·rw [e1] at hj'
   rw [retag_old (OwnR.lt hw.own hj').2]
   exact hw.tag j hj'
  ·rw [e1] at hj'
   cases hj'
   exact retag_new (Nat.le_refl _)
 ·have hkk : ∀ y : SpR, PpsAt wA y.2.1 (nx y.1.1) → (∀ ad, y.2.1 = some ad → retag T w.heap.size 6 ad.block = 6 ∧ ad.block < wA.heap.size) → PpsAt w' y.2.1 (nx y.1.1) ∧ (∀ ad, y.2.1 = some ad → retag (retag T w.heap.size 6) wA.heap.size 2 ad.block = 6 ∧ ad.block < w'.heap.size) := fun y q1 q2 =>
   ⟨q1.keeps hk (fun ad had hh => by have := (q2 ad had).1; rw [this] at hh; cases hh.1), fun ad had => ⟨by rw [retag_old (q2 ad had).2]; exact (q2 ad had).1, Nat.lt_of_lt_of_le (q2 ad had).2 hk.size⟩⟩
  rcases List.mem_append.1 hx with hx | hx
  ·exact hkk x (hw.nexts x hx).1 (hw.nexts x hx).2
  ·rw [List.mem_singleton] at hx
   subst hx
   exact hkk _ hn (fun ad had => ⟨retag_new (hnb ad had).1, (hnb ad had).2⟩)
theorem WayT.cut {B : Nat} {k : Nat} {a : Option Addr} {c : Nat} {S : List SpR} {e : SpR} (h : WayT w B nx T k a c (S ++ [e])) : WayT w B nx T k a c S := by
 have ho := h.own
 obtain ⟨g, rfl, _, _⟩ := OwnR.addr ho (by simp)
 refine ⟨?_, fun j hj => h.tag j hj, fun x hx => h.nexts x (List.mem_append_left _ hx)⟩
 have h2 := ho.shrink (m := S.length) (by simp)
 rw [spcells_snoc, List.take_left' (spcells_len nx S)] at h2
 exact h2
theorem SrAt.cut0 {e : SpR} (h : SrAt W sB Z nx X (S0 ++ [e]) S1 pl re ma rv w) : SrAt W sB Z nx X S0 S1 pl re ma rv w := by
 obtain ⟨T, h⟩ := h
 exact ⟨T, ⟨h.low, h.row, h.hs, fun hh => (h.w0 hh).cut, h.w1, h.mp, h.hp, h.mr, h.hr, h.mm, h.hm, h.z, h.y⟩⟩
theorem SrAt.cut1 {e : SpR} (h : SrAt W sB Z nx X S0 (S1 ++ [e]) pl re ma rv w) : SrAt W sB Z nx X S0 S1 pl re ma rv w := by
 obtain ⟨T, h⟩ := h
 exact ⟨T, ⟨h.low, h.row, h.hs, h.w0, fun hh => (h.w1 hh).cut, h.mp, h.hp, h.mr, h.hr, h.mm, h.hm, h.z, h.y⟩⟩
theorem WayT.step {B : Nat} {k : Nat} {g : Nat} {c : Nat} {S : List SpR} {x : PP} {m : Nat} {an : Option Addr} {cn : Nat} (h : WayT w B nx T k (some ⟨g, 0, none⟩) c (S ++ [((x, m), an, cn)])) (hk6 : k ≠ 6) (kn : Nat) :
  WayT (w.setCell ⟨g, S.length * 5 + 4, none⟩ (.int .i64 ((m + 1 : Nat) : Int))) B nx (retag T w.heap.size kn) k (some ⟨g, 0, none⟩) c (S ++ [((x, m + 1), an, cn)]) := by
 have ho := h.own
 have hg : g < w.heap.size := (OwnR.lt ho (j := g) rfl).2
 have hk : Keeps w (w.setCell ⟨g, S.length * 5 + 4, none⟩ (.int .i64 ((m + 1 : Nat) : Int))) (fun j => j = g) := Keeps.set w g _ _ rfl
 have hz := hk.size
 have hT : T g = k := h.tag g rfl
 refine ⟨?_, fun j hj => ?_, fun e he => ?_⟩
 ·have h2 : OwnR (w.setCell ⟨g, S.length * 5 + 4, none⟩ (.int .i64 ((m + 1 : Nat) : Int))) B TSp 5 (some ⟨g, 0, none⟩) (S ++ [((x, m), an, cn)]).length c ((spcells nx (S ++ [((x, m), an, cn)])).set (S.length * 5 + 4) (.int .i64 ((m + 1 : Nat) : Int))) := (World.ownsRow.stored ho _ _).1
  rw [spcells_at_set] at h2
  have e1 : (S ++ [((x, m), an, cn)]).length = (S ++ [((x, m + 1), an, cn)]).length := by simp
  rw [e1] at h2
  exact h2
 ·have e : j = g := by simp [OB, Value.ownBlock] at hj; exact hj.symm
  rw [e, retag_old hg]
  exact hT
 ·have hh : ∀ y : SpR, PpsAt w y.2.1 (nx y.1.1) → (∀ ad, y.2.1 = some ad → T ad.block = 6 ∧ ad.block < w.heap.size) → PpsAt (w.setCell ⟨g, S.length * 5 + 4, none⟩ (.int .i64 ((m + 1 : Nat) : Int))) y.2.1 (nx y.1.1) ∧ (∀ ad, y.2.1 = some ad → retag T w.heap.size kn ad.block = 6 ∧ ad.block < (w.setCell ⟨g, S.length * 5 + 4, none⟩ (.int .i64 ((m + 1 : Nat) : Int))).heap.size) := fun y q1 q2 =>
   ⟨q1.keeps hk (fun ad had e => by have := (q2 ad had).1; rw [e, hT] at this; exact hk6 this), fun ad had => ⟨by rw [retag_old (q2 ad had).2]; exact (q2 ad had).1, by have := (q2 ad had).2; omega⟩⟩
  rcases List.mem_append.1 he with he | he
  ·have := h.nexts e (List.mem_append_left _ he)
   exact hh e this.1 this.2
  ·rw [List.mem_singleton] at he
   subst he
   have := h.nexts ((x, m), an, cn) (by simp)
   exact hh ((x, m + 1), an, cn) this.1 this.2
theorem SrAt.step0 {g : Nat} {x : PP} {m : Nat} {an : Option Addr} {cn : Nat} (h : SrAt W sB Z nx X (S0 ++ [((x, m), an, cn)]) S1 pl re ma rv w) (hg : X.a0 = some ⟨g, 0, none⟩) : SrAt W sB Z nx X (S0 ++ [((x, m + 1), an, cn)]) S1 pl re ma rv (w.setCell ⟨g, S0.length * 5 + 4, none⟩ (.int .i64 ((m + 1 : Nat) : Int))) := by
 obtain ⟨T, h⟩ := h
 have hw := h.w0 (by decide)
 rw [hg] at hw
 have hgl := (OwnR.lt hw.own (j := g) rfl)
 have ht := h.touch 1 6 (by decide) (Keeps.set w g (S0.length * 5 + 4) (.int .i64 ((m + 1 : Nat) : Int)) ⟨hw.tag g rfl, hgl.1⟩)
 refine ⟨_, ⟨ht.low, fun _ => ht.row (by decide), ht.hs, fun _ => ?_, fun _ => ht.w1 (by decide), fun _ => ht.mp (by decide), ht.hp, fun _ => ht.mr (by decide), ht.hr, fun _ => ht.mm (by decide), ht.hm, fun _ => ht.z (by decide), fun _ => ht.y (by decide)⟩⟩
 rw [hg]
 exact hw.step (by decide) 6
theorem SrAt.step1 {g : Nat} {x : PP} {m : Nat} {an : Option Addr} {cn : Nat} (h : SrAt W sB Z nx X S0 (S1 ++ [((x, m), an, cn)]) pl re ma rv w) (hg : X.a1 = some ⟨g, 0, none⟩) : SrAt W sB Z nx X S0 (S1 ++ [((x, m + 1), an, cn)]) pl re ma rv (w.setCell ⟨g, S1.length * 5 + 4, none⟩ (.int .i64 ((m + 1 : Nat) : Int))) := by
 obtain ⟨T, h⟩ := h
 have hw := h.w1 (by decide)
 rw [hg] at hw
 have hgl := (OwnR.lt hw.own (j := g) rfl)
 have ht := h.touch 2 6 (by decide) (Keeps.set w g (S1.length * 5 + 4) (.int .i64 ((m + 1 : Nat) : Int)) ⟨hw.tag g rfl, hgl.1⟩)
 refine ⟨_, ⟨ht.low, fun _ => ht.row (by decide), ht.hs, fun _ => ht.w0 (by decide), fun _ => ?_, fun _ => ht.mp (by decide), ht.hp, fun _ => ht.mr (by decide), ht.hr, fun _ => ht.mm (by decide), ht.hm, fun _ => ht.z (by decide), fun _ => ht.y (by decide)⟩⟩
 rw [hg]
 exact hw.step (by decide) 6
theorem SrAt.forget (h : SrAt W sB Z nx X S0 S1 pl re ma rv w) (wz : World) (f : Option Addr → Nat → List SpR → Prop) : SrAt W sB ⟨0, 0, wz, Z.kp.keep f⟩ nx X S0 S1 pl re ma rv w := by
 obtain ⟨T, h⟩ := h
 exact ⟨T, ⟨h.low, h.row, h.hs, h.w0, h.w1, h.mp, h.hp, h.mr, h.hr, h.mm, h.hm, fun _ j _ hj => absurd hj (Nat.not_lt_zero _), h.y⟩⟩
theorem SrAt.reserve (h : SrAt W sB Z nx X S0 S1 pl re ma rv w) (hb : Below w.heap.size w w') : SrAt W sB ⟨w.heap.size, w'.heap.size, w', Z.kp⟩ nx X S0 S1 pl re ma rv w' := by
 obtain ⟨T, h⟩ := h
 have ht := (h.touch 77 7 (by decide) (Keeps.of_below hb)).full (by decide)
 have hz := h.low.size
 exact ⟨_, ⟨ht.low, ht.row, ht.hs, ht.w0, ht.w1, ht.mp, ht.hp, ht.mr, ht.hr, ht.mm, ht.hm, fun _ j h1 h2 => ⟨retag_new h1, by have : w.heap.size ≤ j := h1; omega, h2, rfl⟩, ht.y⟩⟩
theorem SrAt.reserve2 (h : SrAt W sB Z nx X S0 S1 pl re ma rv w) (hb : Below w.heap.size w w') (f : Option Addr → Nat → List SpR → Prop) : SrAt W sB ⟨0, 0, W, ⟨f, w.heap.size, w'.heap.size, w'⟩⟩ nx X S0 S1 pl re ma rv w' := by
 obtain ⟨T, h⟩ := h
 have ht := (h.touch 77 8 (by decide) (Keeps.of_below hb)).full (by decide)
 have hz := h.low.size
 exact ⟨_, ⟨ht.low, ht.row, ht.hs, ht.w0, ht.w1, ht.mp, ht.hp, ht.mr, ht.hr, ht.mm, ht.hm, fun _ j _ hj => absurd hj (Nat.not_lt_zero _), fun _ j h1 h2 => ⟨retag_new h1, by have : w.heap.size ≤ j := h1; omega, h2, rfl⟩⟩⟩
theorem SrAt.bump {g : Nat} (h : SrAt W sB Z nx X S0 S1 pl re ma rv w) (h1 : Z.lo ≤ g) (h2 : g < Z.hi) (j : Nat) (v : Value) : SrAt W sB ⟨Z.lo, Z.hi, w.setCell ⟨g, j, none⟩ v, Z.kp⟩ nx X S0 S1 pl re ma rv (w.setCell ⟨g, j, none⟩ v) := by
 obtain ⟨T, h⟩ := h
 obtain ⟨z1, z2, z3, _⟩ := h.z (by decide) g h1 h2
 have hk : Keeps w (w.setCell ⟨g, j, none⟩ v) (fun j => T j = 7 ∧ W.heap.size ≤ j) := Keeps.set w g j v ⟨z1, z2⟩
 have ht := h.touch 7 6 (by decide) hk
 refine ⟨_, ⟨ht.low, fun _ => ht.row (by decide), ht.hs, fun _ => ht.w0 (by decide), fun _ => ht.w1 (by decide), fun _ => ht.mp (by decide), ht.hp, fun _ => ht.mr (by decide), ht.hr, fun _ => ht.mm (by decide), ht.hm, fun _ i h3 h4 => ?_, fun _ => ht.y (by decide)⟩⟩
 obtain ⟨q1, q2, q3, _⟩ := h.z (by decide) i h3 h4
 exact ⟨by rw [retag_old q3]; exact q1, q2, by have := hk.size; omega, rfl⟩
theorem SrAt.aside (h : SrAt W sB Z nx X S0 S1 pl re ma rv w) {j : Nat} (h1 : Z.lo ≤ j) (h2 : j < Z.hi) : w.heap[j]? = Z.wz.heap[j]? ∧ j < w.heap.size ∧ j ≠ sB := by
 obtain ⟨T, h⟩ := h
 obtain ⟨z1, z2, z3, z4⟩ := h.z (by decide) j h1 h2
 exact ⟨z4, z3, fun e => by rw [e, h.hs.1] at z1; cases z1⟩
theorem SrAt.aside2 (h : SrAt W sB Z nx X S0 S1 pl re ma rv w) {j : Nat} (h1 : Z.kp.lo ≤ j) (h2 : j < Z.kp.hi) : w.heap[j]? = Z.kp.w.heap[j]? ∧ j < w.heap.size ∧ j ≠ sB := by
 obtain ⟨T, h⟩ := h
 obtain ⟨z1, z2, z3, z4⟩ := h.y (by decide) j h1 h2
 exact ⟨z4, z3, fun e => by rw [e, h.hs.1] at z1; cases z1⟩
end
def srow (p : Nat) (b : NB) (kind why nodes edges depth : Nat) (vs vl : Value) (X : SX) (n0 n1 : Nat) : List Value :=
 [.pointer (some ⟨p, 0, none⟩), .int .i64 (b.n : Int), .int .i64 (b.d : Int), .int .i64 (kind : Int), .int .i64 (why : Int), .int .i64 (nodes : Int), .int .i64 (edges : Int), .int .i64 (depth : Int), vs, vl, .slice X.a0 n0 X.c0, .slice X.a1 n1 X.c1, .map (some X.mp), .map (some X.mr), .map (some X.mm)]
abbrev srun (p : Nat) (b : NB) (s : NS) (X : SX) (n0 n1 : Nat) : List Value := srow p b 0 0 s.nodes s.edges s.depth (.slice none 0 0) (.slice none 0 0) X n0 n1
def SrOk (W : World) (p sB : Nat) (Z : Zn) (b : NB) (nx : PP → List PP) (s : NS) (st : List (PP × Nat)) (k : Nat) (w : World) : Prop :=
 ∃ X S0 S1, S0.map (·.1) = s.ot.reverse ∧ S1.map (·.1) = st.reverse ∧ (X.pn ≤ k ∧ Z.kp.f X.a0 X.c0 S0) ∧ SrAt W sB Z nx X S0 S1 (way s.ot) s.reached s.marked (srun p b s X S0.length S1.length) w
def EndAt (W : World) (sB : Nat) (e : NF) (w : World) : Prop :=
 Below W.heap.size W w ∧ ∃ rv sa sc la lc, RowAt w sB TSr rv ∧ W.heap.size ≤ sB ∧ rv[3]? = some (.int .i64 (e.kind : Int)) ∧ rv[4]? = some (.int .i64 (e.why : Int)) ∧ rv[5]? = some (.int .i64 (e.nodes : Int)) ∧ rv[6]? = some (.int .i64 (e.edges : Int)) ∧ rv[7]? = some (.int .i64 (e.depth : Int)) ∧ rv[8]? = some (.slice sa e.stem.length sc) ∧ rv[9]? = some (.slice la e.loop.length lc) ∧ (PpsAt w sa e.stem ∧ ∀ ad, sa = some ad → W.heap.size ≤ ad.block) ∧ (PpsAt w la e.loop ∧ ∀ ad, la = some ad → W.heap.size ≤ ad.block)
theorem SrOk.below {W w w' : World} {p sB : Nat} {Z : Zn} {b : NB} {nx : PP → List PP} {s : NS} {st : List (PP × Nat)} {k : Nat} (h : SrOk W p sB Z b nx s st k w) (hb : Below w.heap.size w w') : SrOk W p sB Z b nx s st k w' := by
 obtain ⟨X, S0, S1, h1, h2, h3, h4⟩ := h
 exact ⟨X, S0, S1, h1, h2, h3, h4.below hb⟩
def Goes (W : World) (p sB : Nat) (Z : Zn) (b : NB) (nx : PP → List PP) (st : List (PP × Nat)) (r : NS × Option NF) (e : Ending) (w' : World) : Prop :=
 match r with
 | (s, none) => e = .returned (.bool true) ∧ SrOk W p sB Z b nx s st s.nodes w'
 | (_, some f) => e = .returned (.bool false) ∧ EndAt W sB f w'
end Go.Proofs.Ytfcpfcgcfaacnaa
