/- The program's Graph: the source of a graph with sets. Conditions: the bounds of an argument. -/
import Derived.Test.YtmlbjfaofppikaaPrRows
import Derived.Test.YtmlbjfaofppikaaPrFirst
import Derived.Test.YtmlbjfaofppikaaPrChk2
import Derived.BigRegion
import Derived.Deep.CutBlock
import Derived.Deep.DeepCutAuto
import Derived.Deep.RegionHeld3
namespace Go.Proofs.Ytmlbjfaofppikaa
open Go.RowKit

abbrev TU : Nat := 73
/-- what Graph gives -/
def SrcMade (G : GR) (sets : List (List Bool)) (w : World) (e : Ending) (w' : World) : Prop :=
  Below w.heap.size w w' ∧ ((srcB G sets = true ∧ ∃ f, e = .returned (.iface TFp (.pointer (some ⟨f, 0, none⟩))) ∧ FxAt w' f G (inbits G.edges.length sets) sets.length) ∨ (srcB G sets = false ∧ e = .returned .nilIface))
theorem srcB_no1 {G : GR} {sets : List (List Bool)} (h : gchk G ≠ 0) : srcB G sets = false := by unfold srcB; rw [decide_eq_false h]; rfl
theorem srcB_no2 {G : GR} {sets : List (List Bool)} (h : 16 < sets.length) : srcB G sets = false := by unfold srcB; rw [decide_eq_false (show ¬ sets.length ≤ 16 by omega), Bool.and_false]; rfl
theorem srcB_no3 {G : GR} {sets : List (List Bool)} {k : Nat} (hk : k < sets.length) (h : sets[k].length ≠ G.edges.length) : srcB G sets = false := by
  unfold srcB
  rw [List.all_eq_false.2 ⟨sets[k], List.getElem_mem hk, by simpa using h⟩, Bool.and_false]
theorem srcB_yes {G : GR} {sets : List (List Bool)} (h1 : gchk G = 0) (h2 : sets.length ≤ 16) (h3 : fitB G.edges.length sets sets.length = true) : srcB G sets = true := by
  unfold srcB
  unfold fitB at h3
  rw [List.take_length] at h3
  rw [decide_eq_true h1, decide_eq_true h2, h3]
  rfl
theorem fitB_next {n : Nat} {sets : List (List Bool)} {k : Nat} (hk : k < sets.length) (h : fitB n sets k = true) (h1 : sets[k].length = n) : fitB n sets (k + 1) = true := by
  unfold fitB at h ⊢
  rw [List.take_add_one, List.getElem?_eq_getElem hk, Option.toList_some, List.all_append, h]
  simp [h1]
abbrev fxc0 (r n ns : Nat) : List Value := [.slice none 0 0, .slice none 0 0, .slice none 0 0, .slice (some ⟨r, 0, none⟩) n n, .int .i64 ns]
set_option maxHeartbeats 4000000 in
theorem graph_no (w : World) (ai ae al as_ : Option Addr) (ci ce cl cs : Nat) (G : GR) (sets : List (List Bool)) (hG : GAt w ai ae al G) (ok : GOk G) (hno : gchk G ≠ 0 ∨ 16 < sets.length) :
    Calls Try.prog 10 #[.agg #[.slice ai G.init.length ci, .slice ae G.edges.length ce, .slice al G.labels.length cl], .slice as_ sets.length cs] w (SrcMade G sets w) := by
  have hR : srcB G sets = false := by
    rcases hno with h | h
    · exact srcB_no1 h
    · exact srcB_no2 h
  obtain ⟨w1, hw1⟩ : ∃ w1, w.alloc (.cells #[.slice ai G.init.length ci, .slice ae G.edges.length ce, .slice al G.labels.length cl] TG) = w1 := ⟨_, rfl⟩
  have hb1 : Below w.heap.size w w1 := by rw [← hw1]; exact balloc (Below.refl _ _) _
  have hg : RowAt w1 w.heap.size TG [.slice ai G.init.length ci, .slice ae G.edges.length ce, .slice al G.labels.length cl] := by rw [← hw1]; exact RowAt.new #[.slice ai G.init.length ci, .slice ae G.edges.length ce, .slice al G.labels.length cl] rfl
  have g0 : w1.cell? ⟨w.heap.size, 0, none⟩ = some (.slice ai G.init.length ci) := hg.cell 0
  have g1 : w1.cell? ⟨w.heap.size, 1, none⟩ = some (.slice ae G.edges.length ce) := hg.cell 1
  have g2 : w1.cell? ⟨w.heap.size, 2, none⟩ = some (.slice al G.labels.length cl) := hg.cell 2
  have CH := gcheck_any w1 ai ae al ci ce cl G (hG.below hb1) ok
  generalize gchk G = c at hno CH
  replace CH := Lib.hid CH
  replace hR := Lib.hid hR
  replace hb1 := Lib.hid hb1
  clear hG ok hg
  by_cases hc : c = 0
  · have hs : 16 < sets.length := by omega
    have hs2 : decide (16 < (sets.length : Int)) = true := by simp; omega
    have hcb : (c != 0) = false := by simpa using hc
    clear hc hno
    go_enter Try.func10, Try.ntmps10
    go_wp2_with fail
    refine CH.out.mono ?_
    rintro e w2 ⟨rfl, hb2⟩
    go_wp2
    go_ret
    exact ⟨btrans hb1.out hb2, .inr ⟨hR.out, rfl⟩⟩
  · have hcb : (c != 0) = true := by simpa using hc
    clear hc hno
    go_enter Try.func10, Try.ntmps10
    go_wp2_with fail
    refine CH.out.mono ?_
    rintro e w2 ⟨rfl, hb2⟩
    go_wp2
    go_ret
    exact ⟨btrans hb1.out hb2, .inr ⟨hR.out, rfl⟩⟩
/-- the state while bits are set -/
structure Gr1 (w : World) (ai ae al : Option Addr) (gi ci n ce gl cl ns r f : Nat) (m : List Nat) (wr : World) : Prop where
  row : RowAt wr f TF (fxc0 r n ns)
  bits : RowAt wr r TU (u64c m)
  arg : RowAt wr w.heap.size TG [.slice ai gi ci, .slice ae n ce, .slice al gl cl]
  below : Below w.heap.size w wr
theorem Gr1.set {w wr : World} {ai ae al : Option Addr} {gi ci n ce gl cl ns r f : Nat} {m : List Nat} (h : Gr1 w ai ae al gi ci n ce gl cl ns r f m wr) (h1 : w.heap.size < r) (h2 : r < f) (j x : Nat) : Gr1 w ai ae al gi ci n ce gl cl ns r f (m.set j x) (wr.setCell ⟨r, j, none⟩ (.int .u64 x)) :=
  ⟨h.row.other (by omega) _ _, by rw [← u64c_set]; exact h.bits.set j _, h.arg.other (by omega) _ _, bset h.below (by omega)⟩
theorem Gr1.drewN {w wr : World} {ai ae al : Option Addr} {gi ci n ce gl cl ns r f : Nat} {m : List Nat} (h : Gr1 w ai ae al gi ci n ce gl cl ns r f m wr) (k : Nat) : Gr1 w ai ae al gi ci n ce gl cl ns r f m (wr.drewN k) := ⟨h.row, h.bits, h.arg, bdrewN h.below k⟩
theorem Gr1.drew {w wr : World} {ai ae al : Option Addr} {gi ci n ce gl cl ns r f : Nat} {m : List Nat} (h : Gr1 w ai ae al gi ci n ce gl cl ns r f m wr) : Gr1 w ai ae al gi ci n ce gl cl ns r f m wr.drew := h.drewN 1
theorem or_bit {u k : Nat} (hu : u < 65536) (hk : k ≤ 16) : bits .or .u64 (u : Int) (IntKind.u64.wrap (2 ^ k)) = ((u ||| 2 ^ k : Nat) : Int) := by
  have h1 : 2 ^ k ≤ 65536 := Nat.pow_le_pow_right (n := 2) (by omega) hk
  have e : ((2 : Int) ^ k) = ((2 ^ k : Nat) : Int) := by push_cast; rfl
  have h2 : IntKind.u64.wrap ((2 : Int) ^ k) = ((2 ^ k : Nat) : Int) := by
    rw [e, IntKind.wrap_u64]
    generalize 2 ^ k = x at h1
    omega
  rw [h2]
  exact bits_or_u64_nat u (2 ^ k) (by omega) (by omega)
/-- the state while rows are put into the source -/
structure Gr2 (w : World) (ai ae al a4 a5 ea : Option Addr) (gi ci n ce gl cl ns r f B c4 c5 ec : Nat) (G : GR) (m : List Nat) (S : List ER) (wr : World) : Prop where
  row : RowAt wr f TF [.slice a4 gi c4, .slice ea S.length ec, .slice a5 gl c5, .slice (some ⟨r, 0, none⟩) n n, .int .i64 ns]
  i1 : NumsAt .i64 wr a4 G.init
  i2 : NumsAt .u64 wr a5 (natI G.labels)
  l1 : ∀ ad, a4 = some ad → ad.block < B ∧ ad.block ≠ f
  l2 : ∀ ad, a5 = some ad → ad.block < B ∧ ad.block ≠ f
  bits : RowAt wr r TU (u64c m)
  arg : RowAt wr w.heap.size TG [.slice ai gi ci, .slice ae n ce, .slice al gl cl]
  below : Below w.heap.size w wr
  es : EsOwn wr B ea ec S
  hB : B ≤ wr.heap.size
  hf : f < B
section
variable {w wr : World} {ai ae al a4 a5 ea : Option Addr} {gi ci n ce gl cl ns r f B c4 c5 ec : Nat} {G : GR} {m : List Nat} {S : List ER}
theorem Gr2.app (h : Gr2 w ai ae al a4 a5 ea gi ci n ce gl cl ns r f B c4 c5 ec G m S wr) (h1 : w.heap.size < r) (h2 : r < f) {w4 w5 : World} (hb : Below wr.heap.size wr w4) {s : ER} (hs : OwnP w4 wr.heap.size TE s.1 s.2.2.length s.2.1 s.2.2)
    {a' : Option Addr} {c' : Nat} {o : Obj} (ho : OwnR w5 B TEs 1 a' (S.length + 1) c' (S.map ecell ++ [ecell s])) (hg : (w4.alloc o).grownBy w5 (OB ea S.length ec)) (hat : OB a' (S.length + 1) c' = OB ea S.length ec ∨ OB a' (S.length + 1) c' = some (w4.alloc o).heap.size) :
    Gr2 w ai ae al a4 a5 a' gi ci n ce gl cl ns r f B c4 c5 c' G m (S ++ [s]) (w5.setCell ⟨f, 1, none⟩ (.slice a' (S.length + 1) c')) := by
  have hA : Below w4.heap.size w4 (w4.alloc o) := balloc (Below.refl _ _) _
  have hbA : Below wr.heap.size wr (w4.alloc o) := btrans hb hA
  have hob : ∀ j, OB ea S.length ec = some j → B ≤ j ∧ j < wr.heap.size := fun j hj => OwnR.lt h.es.own hj
  have hf := h.hf
  have hBz := h.hB
  have hk1 : Keeps wr w5 (fun j => OB ea S.length ec = some j) := (Keeps.of_below (S := fun j => OB ea S.length ec = some j) hbA).trans (Keeps.of_grown (S := fun j => OB ea S.length ec = some j) hg (fun j e => e)) (fun _ _ h => h)
  have hk2 : Keeps wr w5 (fun j => OB ea S.length ec = some j ∨ j = f) := (Keeps.of_below (S := fun j => OB ea S.length ec = some j ∨ j = f) hbA).trans (Keeps.of_grown (S := fun j => OB ea S.length ec = some j ∨ j = f) hg (fun j e => .inl e)) (fun _ _ h => h)
  have hk := hk2.trans (Keeps.set (S := fun j => OB ea S.length ec = some j ∨ j = f) w5 f 1 (.slice a' (S.length + 1) c') (.inr rfl)) (fun _ _ h => h)
  have hs2 : OwnP w4 B TE s.1 s.2.2.length s.2.1 s.2.2 := OwnR.base hs hBz
  have hes := (h.es.below hb).app hs2 (fun j hj e => by have := (OwnR.lt hs hj).1; have := (hob j e).2; omega) hA ho hg hat
  have el : (S ++ [s]).length = S.length + 1 := by simp
  refine ⟨?_, h.i1.keeps hk (fun ad had e => ?_), h.i2.keeps hk (fun ad had e => ?_), h.l1, h.l2, h.bits.keeps hk (fun e => ?_), h.arg.keeps hk (fun e => ?_), hk.below h.below (fun j e => ?_), hes.keeps (Keeps.set (S := fun j => j = f) w5 f 1 (.slice a' (S.length + 1) c') rfl) (fun j hj e => ?_), Nat.le_trans hBz hk.size, hf⟩
  · rw [el]
    exact (h.row.keeps hk1 (fun e => by have := (hob _ e).1; omega)).set 1 _
  · have := h.l1 ad had
    rcases e with e | e
    · have := (hob _ e).1; omega
    · omega
  · have := h.l2 ad had
    rcases e with e | e
    · have := (hob _ e).1; omega
    · omega
  · rcases e with e | e
    · have := (hob _ e).1; omega
    · omega
  · rcases e with e | e
    · have := (hob _ e).1; omega
    · omega
  · rcases e with e | e
    · have := (hob _ e).1; omega
    · omega
  · have := (hes.blk hj).1
    omega
theorem Gr2.fx (h : Gr2 w ai ae al a4 a5 ea gi ci n ce gl cl ns r f B c4 c5 ec G m S wr) (e1 : gi = G.init.length) (e2 : n = G.edges.length) (e3 : gl = G.labels.length) (hm : m.length = n) (hS : rowsOf S = G.edges) (hll : G.labels.length = G.edges.length) : FxAt wr f G m ns := by
  subst e1 e2 e3
  refine ⟨a4, ea, a5, some ⟨r, 0, none⟩, c4, ec, c5, G.edges.length, ?_, ⟨h.i1, ?_, h.i2⟩, nums_row h.bits, hll, hm⟩
  · have := h.row
    rw [← rowsOf_len, hS] at this
    rw [hm]
    exact this
  · rw [← hS]
    exact h.es.edges
end
theorem Gr2.start {w wo w4 w5 : World} {ai ae al a4 a5 : Option Addr} {gi ci n ce gl cl ns r f c4 c5 T1 T2 : Nat} {G : GR} {m : List Nat} (h1 : w.heap.size < r) (h2 : r < f) (hb : Below w.heap.size w wo) (hrow : RowAt wo f TF (fxc0 r n ns)) (hbits : RowAt wo r TU (u64c m)) (harg : RowAt wo w.heap.size TG [.slice ai gi ci, .slice ae n ce, .slice al gl cl])
    (B2 : Below wo.heap.size wo w5) (hb5 : Below w4.heap.size w4 w5) (hz : wo.heap.size ≤ w4.heap.size) (ho4 : OwnN .i64 w4 wo.heap.size T1 a4 G.init.length c4 G.init) (ho5 : OwnN .u64 w5 w4.heap.size T2 a5 (natI G.labels).length c5 (natI G.labels)) (e1 : gi = G.init.length) (e3 : gl = G.labels.length) :
    Gr2 w ai ae al a4 a5 none gi ci n ce gl cl ns r f w5.heap.size c4 c5 0 G m [] (((w5.setCell ⟨f, 0, none⟩ (.slice a4 G.init.length c4)).setCell ⟨f, 1, none⟩ (.slice none 0 0)).setCell ⟨f, 2, none⟩ (.slice a5 (natI G.labels).length c5)) := by
  have hfl := hrow.lt
  have hz5 := hb5.size
  have k0 : Keeps w5 (w5.setCell ⟨f, 0, none⟩ (.slice a4 G.init.length c4)) (fun j => j = f) := Keeps.set _ _ _ _ rfl
  have k1 := k0.trans (Keeps.set (S := fun j => j = f) _ f 1 (.slice none 0 0) rfl) (fun _ _ h => h)
  have k2 := k1.trans (Keeps.set (S := fun j => j = f) _ f 2 (.slice a5 (natI G.labels).length c5) rfl) (fun _ _ h => h)
  have l4 : ∀ ad, a4 = some ad → ad.block < w5.heap.size ∧ ad.block ≠ f := fun ad had => by
    have := ho4.lt2 (j := ad.block) (by rw [had]; rfl)
    omega
  have l5 : ∀ ad, a5 = some ad → ad.block < w5.heap.size ∧ ad.block ≠ f := fun ad had => by
    have := ho5.lt2 (j := ad.block) (by rw [had]; rfl)
    omega
  refine ⟨?_, NumsAt.keeps ((NumsAt.of_owns ho4).below hb5) k2 (fun ad had => (l4 ad had).2), NumsAt.keeps (NumsAt.of_owns ho5) k2 (fun ad had => (l5 ad had).2), l4, l5, (hbits.below B2).keeps k2 (by omega), (harg.below B2).keeps k2 (by omega), k2.below (btrans hb B2) (fun j e => by omega), EsOwn.nil _ _, k2.size, by omega⟩
  have := (((hrow.below B2).set 0 (.slice a4 G.init.length c4)).set 1 (.slice none 0 0)).set 2 (.slice a5 (natI G.labels).length c5)
  rw [e1, e3]
  rw [natI_len] at this
  rw [natI_len]
  exact this
set_option maxRecDepth 20000 in
set_option maxHeartbeats 4000000 in
theorem graph_yes (w : World) (ai ae al as_ : Option Addr) (ci ce cl cs : Nat) (G : GR) (sets : List (List Bool)) (hG : GAt w ai ae al G) (ok : GOk G) (hS : SetsAt w as_ sets) (hc0 : gchk G = 0) (hs16 : sets.length ≤ 16) :
    Calls Try.prog 10 #[.agg #[.slice ai G.init.length ci, .slice ae G.edges.length ce, .slice al G.labels.length cl], .slice as_ sets.length cs] w (SrcMade G sets w) := by
  obtain ⟨w1, hw1⟩ : ∃ w1, w.alloc (.cells #[.slice ai G.init.length ci, .slice ae G.edges.length ce, .slice al G.labels.length cl] TG) = w1 := ⟨_, rfl⟩
  have hb1 : Below w.heap.size w w1 := by rw [← hw1]; exact balloc (Below.refl _ _) _
  have hg : RowAt w1 w.heap.size TG [.slice ai G.init.length ci, .slice ae G.edges.length ce, .slice al G.labels.length cl] := by rw [← hw1]; exact RowAt.new #[.slice ai G.init.length ci, .slice ae G.edges.length ce, .slice al G.labels.length cl] rfl
  have g0 : w1.cell? ⟨w.heap.size, 0, none⟩ = some (.slice ai G.init.length ci) := hg.cell 0
  have g1 : w1.cell? ⟨w.heap.size, 1, none⟩ = some (.slice ae G.edges.length ce) := hg.cell 1
  have g2 : w1.cell? ⟨w.heap.size, 2, none⟩ = some (.slice al G.labels.length cl) := hg.cell 2
  have CH := gcheck_any w1 ai ae al ci ce cl G (hG.below hb1) ok
  rw [hc0] at CH
  obtain ⟨gi, hgi⟩ : ∃ x, x = G.init.length := ⟨_, rfl⟩
  obtain ⟨n, hn⟩ : ∃ x, x = G.edges.length := ⟨_, rfl⟩
  obtain ⟨gl, hgl⟩ : ∃ x, x = G.labels.length := ⟨_, rfl⟩
  obtain ⟨ns, hns⟩ : ∃ x, x = sets.length := ⟨_, rfl⟩
  have hn24 : Hid (8 * n ≤ 281474976710656) := by show _ ≤ _; have := ok.edgesL; omega
  have hnm : (n : Int) ≤ 9223372036854775807 := by have := ok.edgesL; omega
  have hs2 : decide (16 < (ns : Int)) = false := by simp; omega
  have hns16 : (ns : Int) ≤ 16 := by omega
  have hG1 := Lib.hid (fun wr (hb : Below w.heap.size w wr) => hG.below hb)
  replace hS := Lib.hid hS
  simp only [← hgi, ← hn, ← hgl] at g0 g1 g2 CH hg hw1
  simp only [← hgi, ← hn, ← hgl, ← hns]
  rw [← hns] at hs16
  replace CH := Lib.hid CH
  replace hc0 := Lib.hid hc0
  replace hgi := Lib.hid hgi
  replace hn := Lib.hid hn
  replace hgl := Lib.hid hgl
  replace hns := Lib.hid hns
  replace hb1 := Lib.hid hb1
  replace hg := Lib.hid hg
  replace ok := Lib.hid ok
  clear hG
  go_enter Try.func10, Try.ntmps10
  go_wp2_with fail
  refine CH.out.mono ?_
  rintro e w2 ⟨rfl, hb2⟩
  have hg2 := hg.out.below hb2
  have hw12 := hb2.size
  replace hb2 := Lib.hid (btrans hb1.out hb2)
  clear g0 g1 g2 hw1
  have g1 : w2.cell? ⟨w.heap.size, 1, none⟩ = some (.slice ae n ce) := hg2.cell 1
  replace hg2 := Lib.hid hg2
  go_wp2_with (at_make; refine wp_makeRow rfl _ _ _ TU (.int .u64 0) 8 rfl Try.underlying24 infoU rfl n rfl rfl hn24.out (by decide) ?_)
  intro w3 hr3 hb3 hz3
  replace hg2 := Lib.hid (hg2.out.below hb3)
  have hb3' := Lib.hid (btrans hb2.out hb3)
  clear g1
  go_wp2
  have hst0 : Hid (Gr1 w ai ae al gi ci n ce gl cl ns w2.heap.size w3.heap.size (mixB n sets 0 0) (w3.alloc (.cells #[.slice none 0 0, .slice none 0 0, .slice none 0 0, .slice (some ⟨w2.heap.size, 0, none⟩) n n, .int .i64 ns] TF))) := by
    refine ⟨RowAt.new (fxc0 w2.heap.size n ns).toArray rfl, ?_, hg2.out.alloc _, balloc hb3'.out _⟩
    have := hr3.alloc (.cells (fxc0 w2.heap.size n ns).toArray TF)
    rw [mixB_zero]
    simpa [u64c] using this
  have hrw : w.heap.size < w2.heap.size := by
    have h1 := hg.out.lt
    have h2 := hw12
    omega
  have hrf : w2.heap.size < w3.heap.size := hz3
  replace hr3 := Lib.hid hr3
  obtain ⟨r, hr⟩ : ∃ r, r = w2.heap.size := ⟨_, rfl⟩
  obtain ⟨f, hf⟩ : ∃ f, f = w3.heap.size := ⟨_, rfl⟩
  rw [← hr] at hst0 hrw hrf ⊢
  rw [← hf] at hst0 hrf ⊢
  clear hr3 hb3 hb3' hg2 hz3
  replace hr := Lib.hid hr
  replace hf := Lib.hid hf
  go_loopw [4, 30] (fun v4 iv wr => ∃ k : Nat, v4 = .nilIface ∧ k ≤ ns ∧ iv = .int .i64 k ∧ Hid (fitB n sets k = true) ∧ Hid (Gr1 w ai ae al gi ci n ce gl cl ns r f (mixB n sets k 0) wr)) (fun _ iv _ => ns - (intOf iv).toNat)
  case atStart => exact ⟨0, rfl, Nat.zero_le _, rfl, rfl, hst0.out⟩
  case round =>
    obtain ⟨k, rfl, hk, rfl, hft, st⟩ := hrel
    clear hst0
    obtain ⟨wo, hwo⟩ : ∃ wo, wo = wr := ⟨_, rfl⟩
    subst hwo
    by_cases hlt : k < ns
    · have hlt2 : k < sets.length := by have := hns.out; omega
      have hk2 : (k : Int) < (ns : Int) := by omega
      have hk16 : (k : Int) ≤ 16 := by omega
      obtain ⟨b, off, sa, sc, rfl, hbl, sc0, hT⟩ := hS.out.at k hlt2
      have q0 : wo.cell? ⟨b, off + k, none⟩ = some (.slice sa sets[k].length sc) := bcell st.out.below sc0
      have g1 : wo.cell? ⟨w.heap.size, 1, none⟩ = some (.slice ae n ce) := st.out.arg.cell 1
      obtain ⟨L, hL⟩ : ∃ L, L = sets[k].length := ⟨_, rfl⟩
      have hfit' : Hid (L = n → fitB n sets (k + 1) = true) := fun h => fitB_next hlt2 hft.out (by rw [← h, hL])
      have hsrc : Hid (L ≠ n → srcB G sets = false) := fun h => srcB_no3 hlt2 (by rw [← hL, ← hn.out]; exact h)
      rw [← hL] at q0
      replace hL := Lib.hid hL
      replace hT := Lib.hid hT
      clear sc0
      by_cases hfit : L = n
      · obtain rfl : n = L := hfit.symm
        have hft2 := Lib.hid (hfit'.out rfl)
        clear hfit' hsrc hfit
        have hnn : (n != n) = false := by simp
        have hnn2 : ((n : Int) != (n : Int)) = false := by simp
        go_wp2
        go_loopw [43] (fun jv wr => ∃ j : Nat, j ≤ n ∧ jv = .int .i64 j ∧ Hid (Gr1 w ai ae al gi ci n ce gl cl ns r f (mixB n sets k j) wr)) (fun jv _ => n - (intOf jv).toNat)
        case atStart => exact ⟨0, Nat.zero_le _, rfl, st.out⟩
        case round =>
          obtain ⟨j, hj, rfl, st2⟩ := hrel
          clear st g1 q0
          by_cases hjl : j < n
          · have hj2 : (j : Int) < (n : Int) := by omega
            obtain ⟨b2, off2, rfl, hb2l, tc⟩ := hT.out.at j (by have := hL.out; omega)
            have tc2 := bcell st2.out.below tc
            have hjL : j < sets[k].length := by have := hL.out; omega
            obtain ⟨tv, htv⟩ : ∃ tv, tv = sets[k][j] := ⟨_, rfl⟩
            rw [← htv] at tc2
            have htv2 : Hid ((sets.getD k []).getD j false = tv) := by show _ = _; rw [htv]; simp [List.getD, hlt2, hjL]
            clear tc htv hjL
            cases tv with
            | false =>
              have st3 := Lib.hid (show Gr1 w ai ae al gi ci n ce gl cl ns r f (mixB n sets k (j + 1)) wr by rw [mixB_no htv2.out]; exact st2.out)
              clear st2 htv2
              go_wp2
              go_roundw
              case rel => exact ⟨j + 1, by omega, by go_num, st3.out⟩
              case measure => simp [intOf]; omega
            | true =>
              have c3 : wr.cell? ⟨f, 3, none⟩ = some (.slice (some ⟨r, 0, none⟩) n n) := st2.out.row.cell 3
              have cj : wr.cell? ⟨r, j, none⟩ = some (.int .u64 (bitsN sets j k : Nat)) := by
                rw [st2.out.bits.cell, u64c_at _ _ (by rw [mixB_len]; exact hjl), mixB_at _ _ _ _ hjl]
              have fj : wr.frozen? ⟨r, j, none⟩ = false := st2.out.bits.free j
              have hlt16 := Nat.lt_of_lt_of_le (bitsN_lt sets j k) (Nat.pow_le_pow_right (n := 2) (by omega) (show k ≤ 16 by omega))
              have ob := or_bit (u := bitsN sets j k) (k := k) hlt16 (by omega)
              have st3 : Hid (Gr1 w ai ae al gi ci n ce gl cl ns r f (mixB n sets k (j + 1)) (wr.setCell ⟨r, j, none⟩ (.int .u64 (bits .or .u64 (bitsN sets j k : Int) (IntKind.u64.wrap (2 ^ k))))).drew) := by
                rw [ob, mixB_yes htv2.out]
                exact (st2.out.set hrw hrf j _).drew
              generalize bitsN sets j k = u at cj hlt16 st3 ob
              clear hlt16 ob st2 htv2
              go_wp2
              refine wp_region_still_tail 11 (by kernel_rfl) (by kernel_rfl) ?_
              simp only [List.take_succ_cons, List.take_zero, List.drop_succ_cons, List.drop_zero, World.drew_eq]
              repeat still_step
              refine wpStill_nil ?_
              go_wp2
              go_roundw
              case rel => exact ⟨j + 1, by omega, by go_num, st3.out⟩
              case measure => simp [intOf]; omega
          · obtain rfl : j = n := by omega
            have st3 := Lib.hid (show Gr1 w ai ae al gi ci j ce gl cl ns r f (mixB j sets (k + 1) 0) wr by rw [← mixB_next]; exact st2.out)
            clear st2
            go_wp2
            go_roundw
            case rel => exact ⟨k + 1, rfl, by omega, by go_num, hft2.out, st3.out⟩
            case measure => simp [intOf]; omega
      · have hR := Lib.hid (hsrc.out hfit)
        have hnn : (L != n) = true := by simpa using hfit
        have hnn2 : ((L : Int) != (n : Int)) = true := by simp; omega
        have hbr := Lib.hid st.out.below
        clear hfit' hsrc hfit
        go_wp2
        go_ret
        exact ⟨hbr.out, .inr ⟨hR.out, rfl⟩⟩
    · obtain rfl : k = ns := by omega
      have hR := Lib.hid (srcB_yes (G := G) (sets := sets) hc0.out (by have := hns.out; omega) (by rw [← hn.out, ← hns.out]; exact hft.out))
      have hm := Lib.hid (show mixB n sets k 0 = inbits n sets by rw [hns.out]; exact mixB_end n sets)
      rw [hm.out] at st
      clear hm hft hlt
      have g0 : wo.cell? ⟨w.heap.size, 0, none⟩ = some (.slice ai gi ci) := st.out.arg.cell 0
      have g2 : wo.cell? ⟨w.heap.size, 2, none⟩ = some (.slice al gl cl) := st.out.arg.cell 2
      have C1 := Lib.hid (fun wr (hb : Below w.heap.size w wr) => clone_ints wr ai gi ci G.init (hG1.out wr hb).init hgi.out (by have := ok.out.initL; have := hgi.out; omega))
      have C2 := Lib.hid (fun wr (hb : Below w.heap.size w wr) => clone_u64s wr al gl cl (natI G.labels) (hG1.out wr hb).labels (by rw [natI_len]; exact hgl.out) (by have := ok.out.labsL; have := hgl.out; omega))
      have hbo := Lib.hid st.out.below
      have hal := Lib.hid st.out.arg
      have hro := Lib.hid st.out.row
      have hbt := Lib.hid st.out.bits
      clear st
      go_wp2
      go_upto_region 16 with (fail)
      go_cut [71] (fun _ wx => ∃ a4 c4 a5 c5 B, Hid (Gr2 w ai ae al a4 a5 none gi ci n ce gl cl k r f B c4 c5 0 G (inbits n sets) [] wx))
      case first =>
       go_region_law (first
        | (go_simp; go_at_call 29; (with_reducible refine (C2.out _ (btrans hbo.out B1)).mono ?_); rintro e w5 ⟨a5, c5, rfl, ho5, hb5⟩; have B2 := btrans B1 hb5; have rf5 := hro.out.below B2; have x0 : w5.frozen? ⟨f, 0, none⟩ = false := rf5.free 0; have x1 : w5.frozen? ⟨f, 1, none⟩ = false := rf5.free 1; have x2 : w5.frozen? ⟨f, 2, none⟩ = false := rf5.free 2; have y0 : w5.cell? ⟨f, 0, none⟩ = some (.slice none 0 0) := rf5.cell 0; have y1 : w5.cell? ⟨f, 1, none⟩ = some (.slice none 0 0) := rf5.cell 1; have y2 : w5.cell? ⟨f, 2, none⟩ = some (.slice none 0 0) := rf5.cell 2; replace ho5 := Lib.hid ho5; replace rf5 := Lib.hid rf5)
        | (go_simp; go_at_call 28; (with_reducible refine (C1.out _ hbo.out.drew).mono ?_); rintro e w4 ⟨a4, c4, rfl, ho4, hb4⟩; have B1 : Below wo.heap.size wo w4 := ⟨hb4.os, hb4.tape, hb4.output, hb4.size, hb4.block⟩; have ha4 := hal.out.below B1; have k0 : w4.cell? ⟨w.heap.size, 0, none⟩ = some (.slice ai gi ci) := ha4.cell 0; have k2 : w4.cell? ⟨w.heap.size, 2, none⟩ = some (.slice al gl cl) := ha4.cell 2; replace ho4 := Lib.hid ho4; replace ha4 := Lib.hid ha4))
       all_goals (
        go_wp2_with fail
        go_meet
        exact ⟨a4, c4, a5, c5, w5.heap.size, Gr2.start hrw hrf hbo.out hro.out hbt.out hal.out B2 hb5 B1.size ho4.out ho5.out hgi.out hgl.out⟩)
      case rest =>
        obtain ⟨a4, c4, a5, c5, B, g2⟩ := hcut
        have EE := Lib.hid (fun wr (hb : Below w.heap.size w wr) => (hG1.out wr hb).edges)
        have hE2 := Lib.hid ok.out.rows
        clear C1 C2 hbo hal hro hbt g0 hG1
        have g1 : wc.cell? ⟨w.heap.size, 1, none⟩ = some (.slice ae n ce) := g2.out.arg.cell 1
        go_wp2
        go_loopw [75] (fun iv wr => ∃ (i ec : Nat) (ea : Option Addr) (S : List ER), i ≤ n ∧ iv = .int .i64 i ∧ Hid (rowsOf S = G.edges.take i) ∧ Hid (S.length = i) ∧ Hid (Gr2 w ai ae al a4 a5 ea gi ci n ce gl cl k r f B c4 c5 ec G (inbits n sets) S wr)) (fun iv _ => n - (intOf iv).toNat)
        case atStart => exact ⟨0, 0, none, [], Nat.zero_le _, rfl, rfl, rfl, g2.out⟩
        case round =>
          obtain ⟨i, ec, ea, S, hi, rfl, hS1, hS2, st⟩ := hrel
          clear g1 g2
          by_cases hil : i < n
          · have hil2 : i < G.edges.length := by have := hn.out; omega
            have hi2 : (i : Int) < (n : Int) := by omega
            obtain ⟨b, off, a2, c2, rfl, hbl, q0, hq, hp⟩ := (EE.out wr st.out.below).at i hil2
            have hp' := Lib.hid (fun w' (hb : Below wr.heap.size wr w') => hp.below hb)
            have hlen : Hid (G.edges[i].length * 16 ≤ 140737488355328) := by have := hE2.out _ (List.getElem_mem hil2); show _ ≤ _; omega
            have hnext : Hid (∀ s : ER, s.2.2 = G.edges[i] → rowsOf (S ++ [s]) = G.edges.take (i + 1)) := fun s hs => by
              rw [rowsOf_snoc, hS1.out, hs, List.take_add_one, List.getElem?_eq_getElem hil2]
              rfl
            generalize G.edges[i] = es at q0 hp hp' hlen hnext
            have CP := Lib.hid (fun w' (hb : Below wr.heap.size wr w') => clone_pairs w' a2 es.length c2 es (hp'.out w' hb) rfl hlen.out)
            have f1 : wr.cell? ⟨f, 1, none⟩ = some (.slice ea S.length ec) := st.out.row.cell 1
            have hn24b : n * 24 ≤ 140737488351232 := by have := ok.out.edgesL; have := hn.out; omega
            have n5 : Hid (S.length + 1 ≤ maxLen) := by show _ ≤ _; unfold maxLen; have := hS2.out; omega
            have y5 : Hid ((S.length + 1) * 24 ≤ 140737488355328) := by show _ ≤ _; have := hS2.out; omega
            have nx2 := Lib.hid (fun (a3 : Option Addr) (c3 : Nat) => hnext.out (a3, c3, es) rfl)
            have T2 : Hid (∀ (w4 : World), Below wr.heap.size wr w4 → ∀ o, OwnR (w4.alloc o) B TEs 1 ea S.length ec (S.map ecell) ∧ w4.cell? ⟨f, 1, none⟩ = some (.slice ea S.length ec) ∧ B ≤ (w4.alloc o).heap.size ∧ f < w4.heap.size) := fun w4 hb o => by
              refine ⟨((st.out.es.below hb).below (balloc (Below.refl _ _) _)).own, bcell hb f1, ?_, World.block_lt_of_cell? w4 _ (bcell hb f1)⟩
              have := st.out.hB
              have := hb.size
              have := (balloc (Below.refl w4.heap.size w4) o).size
              omega
            have T3 : Hid (∀ (w4 w5 : World) (o : Obj), Below wr.heap.size wr w4 → (w4.alloc o).grownBy w5 (OB ea S.length ec) → w5.frozen? ⟨f, 1, none⟩ = false ∧ w5.cell? ⟨f, 1, none⟩ = some (.slice ea S.length ec)) := fun w4 w5 o hb hg => by
              have hk1 : Keeps wr w5 (fun j => OB ea S.length ec = some j) := (Keeps.of_below (S := fun j => OB ea S.length ec = some j) (btrans hb (balloc (Below.refl _ _) o))).trans (Keeps.of_grown (S := fun j => OB ea S.length ec = some j) hg (fun j e => e)) (fun _ _ h => h)
              have hr := st.out.row.keeps hk1 (fun e => by have := (OwnR.lt st.out.es.own e).1; have := st.out.hf; omega)
              exact ⟨hr.free 1, hr.cell 1⟩
            clear hp hp' hq hS1 hn24b hnext
            go_upto_block 5 with (fail)
            go_cut [91] (fun _ wx => ∃ a3 c3 ea2 ec2, Hid (Gr2 w ai (some ⟨b, off, none⟩) al a4 a5 ea2 gi ci n ce gl cl k r f B c4 c5 ec2 G (inbits n sets) (S ++ [(a3, c3, es)]) wx))
            case first =>
             go_wp2
             go_region_law (first
              | (go_simp; go_at_call 30; (with_reducible refine (CP.out _ (Below.refl _ _).drew).mono ?_); rintro e w4 ⟨a3, c3, rfl, ho4, hb4⟩; have B1 : Below wr.heap.size wr w4 := ⟨hb4.os, hb4.tape, hb4.output, hb4.size, hb4.block⟩; obtain ⟨OW, d1, hBA, hfl⟩ := T2.out w4 B1 (.cells #[.slice a3 es.length c3] TEs); replace OW := Lib.hid OW; replace hBA := Lib.hid hBA; replace ho4 := Lib.hid ho4; have nc := Lib.hid (new_cells w4 #[.slice a3 es.length c3] TEs rfl); have oc : Hid (∀ u ∈ [Value.slice a3 es.length c3], u.oneCell' = true) := (fun u hu => by simp at hu; rw [hu]; rfl))
              | (refine step_appR ?_ (.tmp 84) (.tmp 87) 23 TEs (.slice none 0 0) 1 24 ?_ Try.underlying23 infoEs rfl (by decide) B ea S.length ec (S.map ecell) ?_ OW.out w4.heap.size 1 [.slice a3 es.length c3] ?_ rfl nc.out oc.out n5.out y5.out hBA.out ?_; exact rfl; exact rfl; exact rfl; exact rfl; intro a6 c6 w5 ho5 hg5 hat5; obtain ⟨f5, d5⟩ := T3.out w4 w5 _ B1 hg5; replace ho5 := Lib.hid ho5; replace hg5 := Lib.hid hg5; replace hat5 := Lib.hid hat5))
             all_goals (
              go_wp2_with fail
              go_meet
              exact ⟨a3, c3, a6, c6, Gr2.app (s := (a3, c3, es)) st.out hrw hrf B1 ho4.out ho5.out hg5.out hat5.out⟩)
            case rest =>
              obtain ⟨a3, c3, ea2, ec2, st2⟩ := hcut
              have h2 : Hid ((S ++ [(a3, c3, es)]).length = i + 1) := by show _ = _; rw [List.length_append, hS2.out]; rfl
              have h1 := Lib.hid (nx2.out a3 c3)
              clear st hS2 nx2 T2 T3 CP f1
              go_wp2
              go_roundw
              case rel => exact ⟨i + 1, ec2, ea2, _, by omega, by go_num, h1.out, h2.out, st2.out⟩
              case measure => simp [intOf]; omega
          · obtain rfl : i = n := by omega
            have hfx := Lib.hid (st.out.fx hgi.out hn.out hgl.out (by simp [inbits]) (by rw [hS1.out, hn.out, List.take_length]) (gchk_good hc0.out).2.1)
            have hbr := Lib.hid st.out.below
            clear st hS1 hS2
            go_wp2
            go_ret
            refine ⟨hbr.out, .inl ⟨hR.out, f, rfl, ?_⟩⟩
            rw [← hn.out, ← hns.out]
            exact hfx.out
theorem graph_any (w : World) (ai ae al as_ : Option Addr) (ci ce cl cs : Nat) (G : GR) (sets : List (List Bool)) (hG : GAt w ai ae al G) (ok : GOk G) (hS : SetsAt w as_ sets) :
    Calls Try.prog 10 #[.agg #[.slice ai G.init.length ci, .slice ae G.edges.length ce, .slice al G.labels.length cl], .slice as_ sets.length cs] w (SrcMade G sets w) := by
  by_cases h1 : gchk G = 0
  · by_cases h2 : sets.length ≤ 16
    · exact graph_yes w ai ae al as_ ci ce cl cs G sets hG ok hS h1 h2
    · exact graph_no w ai ae al as_ ci ce cl cs G sets hG ok (.inr (by omega))
  · exact graph_no w ai ae al as_ ci ce cl cs G sets hG ok (.inl h1)
end Go.Proofs.Ytmlbjfaofppikaa
