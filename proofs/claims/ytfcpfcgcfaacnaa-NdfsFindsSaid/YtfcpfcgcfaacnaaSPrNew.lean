/- The program's Graph: the source of a graph with sets. Conditions: the bounds of an argument. Nodes of an automaton that a call puts one behind the other, each with a list of its own. Conditions: the bound on an append. The program's New: a product of a source and an automaton. Conditions: the bounds of an argument. -/
import Derived.Test.YtfcpfcgcfaacnaaSPrObj
import Derived.Test.YtfcpfcgcfaacnaaSPrIn
import Derived.BigRegion
import Derived.Deep.CutBlock
import Derived.Deep.DeepCutAuto
import Derived.Deep.RegionHeld3
namespace Go.Proofs.Ytfcpfcgcfaacnaa
open Go.RowKit
abbrev TU : Nat := 86
def SrcMade (G : GR) (sets : List (List Bool)) (w : World) (e : Ending) (w' : World) : Prop :=
  Below w.heap.size w w' ∧ ((srcB G sets = true ∧ ∃ f, e = .returned (.iface TFp (.pointer (some ⟨f, 0, none⟩))) ∧ FxAt w' f G (inbits G.edges.length sets) sets.length) ∨ (srcB G sets = false ∧ e = .returned .nilIface))
theorem srcB_no1 {G : GR} {sets : List (List Bool)} (h : gchk G ≠ 0) : srcB G sets = false := by unfold srcB; rw [decide_eq_false h]; rfl
theorem srcB_no2 {G : GR} {sets : List (List Bool)} (h : 16 < sets.length) : srcB G sets = false := by unfold srcB; rw [decide_eq_false (show ¬ sets.length ≤ 16 by omega), Bool.and_false]; rfl
theorem srcB_no3 {G : GR} {sets : List (List Bool)} {k : Nat} (hk : k < sets.length) (h : sets[k].length ≠ G.edges.length) : srcB G sets = false := by
  unfold srcB
  rw [List.all_eq_false.2 ⟨sets[k], List.getElem_mem hk, by simpa using h⟩, Bool.and_false]
theorem srcB_yes {G : GR} {sets : List (List Bool)} (h1 : gchk G = 0) (h2 : sets.length ≤ 16) (h3 : fitB G.edges.length sets sets.length = true) : srcB G sets = true := by
  unfold srcB
  unfold fitB at h3
  rw [List.take_length] at h3
  rw [decide_eq_true h1, decide_eq_true h2, h3]
  rfl
theorem fitB_next {n : Nat} {sets : List (List Bool)} {k : Nat} (hk : k < sets.length) (h : fitB n sets k = true) (h1 : sets[k].length = n) : fitB n sets (k + 1) = true := by
  unfold fitB at h ⊢
  rw [List.take_add_one, List.getElem?_eq_getElem hk, Option.toList_some, List.all_append, h]
  simp [h1]
abbrev fxc0 (r n ns : Nat) : List Value := [.slice none 0 0, .slice none 0 0, .slice none 0 0, .slice (some ⟨r, 0, none⟩) n n, .int .i64 ns]
set_option maxHeartbeats 4000000 in
theorem graph_no (w : World) (ai ae al as_ : Option Addr) (ci ce cl cs : Nat) (G : GR) (sets : List (List Bool)) (hG : GAt w ai ae al G) (ok : GOk G) (hno : gchk G ≠ 0 ∨ 16 < sets.length) :
    Calls Try.prog 13 #[.agg #[.slice ai G.init.length ci, .slice ae G.edges.length ce, .slice al G.labels.length cl], .slice as_ sets.length cs] w (SrcMade G sets w) := by
  have hR : srcB G sets = false := by
    rcases hno with h | h
    · exact srcB_no1 h
    · exact srcB_no2 h
  obtain ⟨w1, hw1⟩ : ∃ w1, w.alloc (.cells #[.slice ai G.init.length ci, .slice ae G.edges.length ce, .slice al G.labels.length cl] TG) = w1 := ⟨_, rfl⟩
  have hb1 : Below w.heap.size w w1 := by rw [← hw1]; exact balloc (Below.refl _ _) _
  have hg : RowAt w1 w.heap.size TG [.slice ai G.init.length ci, .slice ae G.edges.length ce, .slice al G.labels.length cl] := by rw [← hw1]; exact RowAt.new #[.slice ai G.init.length ci, .slice ae G.edges.length ce, .slice al G.labels.length cl] rfl
  have g0 : w1.cell? ⟨w.heap.size, 0, none⟩ = some (.slice ai G.init.length ci) := hg.cell 0
  have g1 : w1.cell? ⟨w.heap.size, 1, none⟩ = some (.slice ae G.edges.length ce) := hg.cell 1
  have g2 : w1.cell? ⟨w.heap.size, 2, none⟩ = some (.slice al G.labels.length cl) := hg.cell 2
  have CH := gcheck_any w1 ai ae al ci ce cl G (hG.below hb1) ok
  generalize gchk G = c at hno CH
  replace CH := Lib.hid CH
  replace hR := Lib.hid hR
  replace hb1 := Lib.hid hb1
  clear hG ok hg
  by_cases hc : c = 0
  · have hs : 16 < sets.length := by omega
    have hs2 : decide (16 < (sets.length : Int)) = true := by simp; omega
    have hcb : (c != 0) = false := by simpa using hc
    clear hc hno
    go_enter Try.func13, Try.ntmps13
    go_wp2_with fail
    refine CH.out.mono ?_
    rintro e w2 ⟨rfl, hb2⟩
    go_wp2
    go_ret
    exact ⟨btrans hb1.out hb2, .inr ⟨hR.out, rfl⟩⟩
  · have hcb : (c != 0) = true := by simpa using hc
    clear hc hno
    go_enter Try.func13, Try.ntmps13
    go_wp2_with fail
    refine CH.out.mono ?_
    rintro e w2 ⟨rfl, hb2⟩
    go_wp2
    go_ret
    exact ⟨btrans hb1.out hb2, .inr ⟨hR.out, rfl⟩⟩
structure Gr1 (w : World) (ai ae al : Option Addr) (gi ci n ce gl cl ns r f : Nat) (m : List Nat) (wr : World) : Prop where
  row : RowAt wr f TF (fxc0 r n ns)
  bits : RowAt wr r TU (u64c m)
  arg : RowAt wr w.heap.size TG [.slice ai gi ci, .slice ae n ce, .slice al gl cl]
  below : Below w.heap.size w wr
theorem Gr1.set {w wr : World} {ai ae al : Option Addr} {gi ci n ce gl cl ns r f : Nat} {m : List Nat} (h : Gr1 w ai ae al gi ci n ce gl cl ns r f m wr) (h1 : w.heap.size < r) (h2 : r < f) (j x : Nat) : Gr1 w ai ae al gi ci n ce gl cl ns r f (m.set j x) (wr.setCell ⟨r, j, none⟩ (.int .u64 x)) :=
  ⟨h.row.other (by omega) _ _, by rw [← u64c_set]; exact h.bits.set j _, h.arg.other (by omega) _ _, bset h.below (by omega)⟩
theorem Gr1.drewN {w wr : World} {ai ae al : Option Addr} {gi ci n ce gl cl ns r f : Nat} {m : List Nat} (h : Gr1 w ai ae al gi ci n ce gl cl ns r f m wr) (k : Nat) : Gr1 w ai ae al gi ci n ce gl cl ns r f m (wr.drewN k) := ⟨h.row, h.bits, h.arg, bdrewN h.below k⟩
theorem Gr1.drew {w wr : World} {ai ae al : Option Addr} {gi ci n ce gl cl ns r f : Nat} {m : List Nat} (h : Gr1 w ai ae al gi ci n ce gl cl ns r f m wr) : Gr1 w ai ae al gi ci n ce gl cl ns r f m wr.drew := h.drewN 1
theorem or_bit {u k : Nat} (hu : u < 65536) (hk : k ≤ 16) : bits .or .u64 (u : Int) (IntKind.u64.wrap (2 ^ k)) = ((u ||| 2 ^ k : Nat) : Int) := by
  have h1 : 2 ^ k ≤ 65536 := Nat.pow_le_pow_right (n := 2) (by omega) hk
  have e : ((2 : Int) ^ k) = ((2 ^ k : Nat) : Int) := by push_cast; rfl
  have h2 : IntKind.u64.wrap ((2 : Int) ^ k) = ((2 ^ k : Nat) : Int) := by
    rw [e, IntKind.wrap_u64]
    generalize 2 ^ k = x at h1
    omega
  rw [h2]
  exact bits_or_u64_nat u (2 ^ k) (by omega) (by omega)
structure Gr2 (w : World) (ai ae al a4 a5 ea : Option Addr) (gi ci n ce gl cl ns r f B c4 c5 ec : Nat) (G : GR) (m : List Nat) (S : List ER) (wr : World) : Prop where
  row : RowAt wr f TF [.slice a4 gi c4, .slice ea S.length ec, .slice a5 gl c5, .slice (some ⟨r, 0, none⟩) n n, .int .i64 ns]
  i1 : NumsAt .i64 wr a4 G.init
  i2 : NumsAt .u64 wr a5 (natI G.labels)
  l1 : ∀ ad, a4 = some ad → ad.block < B ∧ ad.block ≠ f
  l2 : ∀ ad, a5 = some ad → ad.block < B ∧ ad.block ≠ f
  bits : RowAt wr r TU (u64c m)
  arg : RowAt wr w.heap.size TG [.slice ai gi ci, .slice ae n ce, .slice al gl cl]
  below : Below w.heap.size w wr
  es : EsOwn wr B ea ec S
  hB : B ≤ wr.heap.size
  hf : f < B
section
variable {w wr : World} {ai ae al a4 a5 ea : Option Addr} {gi ci n ce gl cl ns r f B c4 c5 ec : Nat} {G : GR} {m : List Nat} {S : List ER}
theorem Gr2.app (h : Gr2 w ai ae al a4 a5 ea gi ci n ce gl cl ns r f B c4 c5 ec G m S wr) (h1 : w.heap.size < r) (h2 : r < f) {w4 w5 : World} (hb : Below wr.heap.size wr w4) {s : ER} (hs : OwnP w4 wr.heap.size TE s.1 s.2.2.length s.2.1 s.2.2)
    {a' : Option Addr} {c' : Nat} {o : Obj} (ho : OwnR w5 B TEs 1 a' (S.length + 1) c' (S.map ecell ++ [ecell s])) (hg : (w4.alloc o).grownBy w5 (OB ea S.length ec)) (hat : OB a' (S.length + 1) c' = OB ea S.length ec ∨ OB a' (S.length + 1) c' = some (w4.alloc o).heap.size) :
    Gr2 w ai ae al a4 a5 a' gi ci n ce gl cl ns r f B c4 c5 c' G m (S ++ [s]) (w5.setCell ⟨f, 1, none⟩ (.slice a' (S.length + 1) c')) := by
  have hA : Below w4.heap.size w4 (w4.alloc o) := balloc (Below.refl _ _) _
  have hbA : Below wr.heap.size wr (w4.alloc o) := btrans hb hA
  have hob : ∀ j, OB ea S.length ec = some j → B ≤ j ∧ j < wr.heap.size := fun j hj => OwnR.lt h.es.own hj
  have hf := h.hf
  have hBz := h.hB
  have hk1 : Keeps wr w5 (fun j => OB ea S.length ec = some j) := (Keeps.of_below (S := fun j => OB ea S.length ec = some j) hbA).trans (Keeps.of_grown (S := fun j => OB ea S.length ec = some j) hg (fun j e => e)) (fun _ _ h => h)
  have hk2 : Keeps wr w5 (fun j => OB ea S.length ec = some j ∨ j = f) := (Keeps.of_below (S := fun j => OB ea S.length ec = some j ∨ j = f) hbA).trans (Keeps.of_grown (S := fun j => OB ea S.length ec = some j ∨ j = f) hg (fun j e => .inl e)) (fun _ _ h => h)
  have hk := hk2.trans (Keeps.set (S := fun j => OB ea S.length ec = some j ∨ j = f) w5 f 1 (.slice a' (S.length + 1) c') (.inr rfl)) (fun _ _ h => h)
  have hs2 : OwnP w4 B TE s.1 s.2.2.length s.2.1 s.2.2 := OwnR.base hs hBz
  have hes := (h.es.below hb).app hs2 (fun j hj e => by have := (OwnR.lt hs hj).1; have := (hob j e).2; omega) hA ho hg hat
  have el : (S ++ [s]).length = S.length + 1 := by simp
  refine ⟨?_, h.i1.keeps hk (fun ad had e => ?_), h.i2.keeps hk (fun ad had e => ?_), h.l1, h.l2, h.bits.keeps hk (fun e => ?_), h.arg.keeps hk (fun e => ?_), hk.below h.below (fun j e => ?_), hes.keeps (Keeps.set (S := fun j => j = f) w5 f 1 (.slice a' (S.length + 1) c') rfl) (fun j hj e => ?_), Nat.le_trans hBz hk.size, hf⟩
  · rw [el]
    exact (h.row.keeps hk1 (fun e => by have := (hob _ e).1; omega)).set 1 _
  · have := h.l1 ad had
    rcases e with e | e
    · have := (hob _ e).1; omega
    · omega
  · have := h.l2 ad had
    rcases e with e | e
    · have := (hob _ e).1; omega
    · omega
  · rcases e with e | e
    · have := (hob _ e).1; omega
    · omega
  · rcases e with e | e
    · have := (hob _ e).1; omega
    · omega
  · rcases e with e | e
    · have := (hob _ e).1; omega
    · omega
  · have := (hes.blk hj).1
    omega
theorem Gr2.fx (h : Gr2 w ai ae al a4 a5 ea gi ci n ce gl cl ns r f B c4 c5 ec G m S wr) (e1 : gi = G.init.length) (e2 : n = G.edges.length) (e3 : gl = G.labels.length) (hm : m.length = n) (hS : rowsOf S = G.edges) (hll : G.labels.length = G.edges.length) : FxAt wr f G m ns := by
  subst e1 e2 e3
  refine ⟨a4, ea, a5, some ⟨r, 0, none⟩, c4, ec, c5, G.edges.length, ?_, ⟨h.i1, ?_, h.i2⟩, nums_row h.bits, hll, hm⟩
  · have := h.row
    rw [← rowsOf_len, hS] at this
    rw [hm]
    exact this
  · rw [← hS]
    exact h.es.edges
end
theorem Gr2.start {w wo w4 w5 : World} {ai ae al a4 a5 : Option Addr} {gi ci n ce gl cl ns r f c4 c5 T1 T2 : Nat} {G : GR} {m : List Nat} (h1 : w.heap.size < r) (h2 : r < f) (hb : Below w.heap.size w wo) (hrow : RowAt wo f TF (fxc0 r n ns)) (hbits : RowAt wo r TU (u64c m)) (harg : RowAt wo w.heap.size TG [.slice ai gi ci, .slice ae n ce, .slice al gl cl])
    (B2 : Below wo.heap.size wo w5) (hb5 : Below w4.heap.size w4 w5) (hz : wo.heap.size ≤ w4.heap.size) (ho4 : OwnN .i64 w4 wo.heap.size T1 a4 G.init.length c4 G.init) (ho5 : OwnN .u64 w5 w4.heap.size T2 a5 (natI G.labels).length c5 (natI G.labels)) (e1 : gi = G.init.length) (e3 : gl = G.labels.length) :
    Gr2 w ai ae al a4 a5 none gi ci n ce gl cl ns r f w5.heap.size c4 c5 0 G m [] (((w5.setCell ⟨f, 0, none⟩ (.slice a4 G.init.length c4)).setCell ⟨f, 1, none⟩ (.slice none 0 0)).setCell ⟨f, 2, none⟩ (.slice a5 (natI G.labels).length c5)) := by
  have hfl := hrow.lt
  have hz5 := hb5.size
  have k0 : Keeps w5 (w5.setCell ⟨f, 0, none⟩ (.slice a4 G.init.length c4)) (fun j => j = f) := Keeps.set _ _ _ _ rfl
  have k1 := k0.trans (Keeps.set (S := fun j => j = f) _ f 1 (.slice none 0 0) rfl) (fun _ _ h => h)
  have k2 := k1.trans (Keeps.set (S := fun j => j = f) _ f 2 (.slice a5 (natI G.labels).length c5) rfl) (fun _ _ h => h)
  have l4 : ∀ ad, a4 = some ad → ad.block < w5.heap.size ∧ ad.block ≠ f := fun ad had => by
    have := ho4.lt2 (j := ad.block) (by rw [had]; rfl)
    omega
  have l5 : ∀ ad, a5 = some ad → ad.block < w5.heap.size ∧ ad.block ≠ f := fun ad had => by
    have := ho5.lt2 (j := ad.block) (by rw [had]; rfl)
    omega
  refine ⟨?_, NumsAt.keeps ((NumsAt.of_owns ho4).below hb5) k2 (fun ad had => (l4 ad had).2), NumsAt.keeps (NumsAt.of_owns ho5) k2 (fun ad had => (l5 ad had).2), l4, l5, (hbits.below B2).keeps k2 (by omega), (harg.below B2).keeps k2 (by omega), k2.below (btrans hb B2) (fun j e => by omega), EsOwn.nil _ _, k2.size, by omega⟩
  have := (((hrow.below B2).set 0 (.slice a4 G.init.length c4)).set 1 (.slice none 0 0)).set 2 (.slice a5 (natI G.labels).length c5)
  rw [e1, e3]
  rw [natI_len] at this
  rw [natI_len]
  exact this
set_option maxRecDepth 20000 in
set_option maxHeartbeats 4000000 in
theorem graph_yes (w : World) (ai ae al as_ : Option Addr) (ci ce cl cs : Nat) (G : GR) (sets : List (List Bool)) (hG : GAt w ai ae al G) (ok : GOk G) (hS : SetsAt w as_ sets) (hc0 : gchk G = 0) (hs16 : sets.length ≤ 16) :
    Calls Try.prog 13 #[.agg #[.slice ai G.init.length ci, .slice ae G.edges.length ce, .slice al G.labels.length cl], .slice as_ sets.length cs] w (SrcMade G sets w) := by
  obtain ⟨w1, hw1⟩ : ∃ w1, w.alloc (.cells #[.slice ai G.init.length ci, .slice ae G.edges.length ce, .slice al G.labels.length cl] TG) = w1 := ⟨_, rfl⟩
  have hb1 : Below w.heap.size w w1 := by rw [← hw1]; exact balloc (Below.refl _ _) _
  have hg : RowAt w1 w.heap.size TG [.slice ai G.init.length ci, .slice ae G.edges.length ce, .slice al G.labels.length cl] := by rw [← hw1]; exact RowAt.new #[.slice ai G.init.length ci, .slice ae G.edges.length ce, .slice al G.labels.length cl] rfl
  have g0 : w1.cell? ⟨w.heap.size, 0, none⟩ = some (.slice ai G.init.length ci) := hg.cell 0
  have g1 : w1.cell? ⟨w.heap.size, 1, none⟩ = some (.slice ae G.edges.length ce) := hg.cell 1
  have g2 : w1.cell? ⟨w.heap.size, 2, none⟩ = some (.slice al G.labels.length cl) := hg.cell 2
  have CH := gcheck_any w1 ai ae al ci ce cl G (hG.below hb1) ok
  rw [hc0] at CH
  obtain ⟨gi, hgi⟩ : ∃ x, x = G.init.length := ⟨_, rfl⟩
  obtain ⟨n, hn⟩ : ∃ x, x = G.edges.length := ⟨_, rfl⟩
  obtain ⟨gl, hgl⟩ : ∃ x, x = G.labels.length := ⟨_, rfl⟩
  obtain ⟨ns, hns⟩ : ∃ x, x = sets.length := ⟨_, rfl⟩
  have hn24 : Hid (8 * n ≤ 281474976710656) := by show _ ≤ _; have := ok.edgesL; omega
  have hnm : (n : Int) ≤ 9223372036854775807 := by have := ok.edgesL; omega
  have hs2 : decide (16 < (ns : Int)) = false := by simp; omega
  have hns16 : (ns : Int) ≤ 16 := by omega
  have hG1 := Lib.hid (fun wr (hb : Below w.heap.size w wr) => hG.below hb)
  replace hS := Lib.hid hS
  simp only [← hgi, ← hn, ← hgl] at g0 g1 g2 CH hg hw1
  simp only [← hgi, ← hn, ← hgl, ← hns]
  rw [← hns] at hs16
  replace CH := Lib.hid CH
  replace hc0 := Lib.hid hc0
  replace hgi := Lib.hid hgi
  replace hn := Lib.hid hn
  replace hgl := Lib.hid hgl
  replace hns := Lib.hid hns
  replace hb1 := Lib.hid hb1
  replace hg := Lib.hid hg
  replace ok := Lib.hid ok
  clear hG
  go_enter Try.func13, Try.ntmps13
  go_wp2_with fail
  refine CH.out.mono ?_
  rintro e w2 ⟨rfl, hb2⟩
  have hg2 := hg.out.below hb2
  have hw12 := hb2.size
  replace hb2 := Lib.hid (btrans hb1.out hb2)
  clear g0 g1 g2 hw1
  have g1 : w2.cell? ⟨w.heap.size, 1, none⟩ = some (.slice ae n ce) := hg2.cell 1
  replace hg2 := Lib.hid hg2
  go_wp2_with (at_make; refine wp_makeRow rfl _ _ _ TU (.int .u64 0) 8 rfl Try.underlying24 infoU rfl n rfl rfl hn24.out (by decide) ?_)
  intro w3 hr3 hb3 hz3
  replace hg2 := Lib.hid (hg2.out.below hb3)
  have hb3' := Lib.hid (btrans hb2.out hb3)
  clear g1
  go_wp2
  have hst0 : Hid (Gr1 w ai ae al gi ci n ce gl cl ns w2.heap.size w3.heap.size (mixB n sets 0 0) (w3.alloc (.cells #[.slice none 0 0, .slice none 0 0, .slice none 0 0, .slice (some ⟨w2.heap.size, 0, none⟩) n n, .int .i64 ns] TF))) := by
    refine ⟨RowAt.new (fxc0 w2.heap.size n ns).toArray rfl, ?_, hg2.out.alloc _, balloc hb3'.out _⟩
    have := hr3.alloc (.cells (fxc0 w2.heap.size n ns).toArray TF)
    rw [mixB_zero]
    simpa [u64c] using this
  have hrw : w.heap.size < w2.heap.size := by
    have h1 := hg.out.lt
    have h2 := hw12
    omega
  have hrf : w2.heap.size < w3.heap.size := hz3
  replace hr3 := Lib.hid hr3
  obtain ⟨r, hr⟩ : ∃ r, r = w2.heap.size := ⟨_, rfl⟩
  obtain ⟨f, hf⟩ : ∃ f, f = w3.heap.size := ⟨_, rfl⟩
  rw [← hr] at hst0 hrw hrf ⊢
  rw [← hf] at hst0 hrf ⊢
  clear hr3 hb3 hb3' hg2 hz3
  replace hr := Lib.hid hr
  replace hf := Lib.hid hf
  go_loopw [4, 30] (fun v4 iv wr => ∃ k : Nat, v4 = .nilIface ∧ k ≤ ns ∧ iv = .int .i64 k ∧ Hid (fitB n sets k = true) ∧ Hid (Gr1 w ai ae al gi ci n ce gl cl ns r f (mixB n sets k 0) wr)) (fun _ iv _ => ns - (intOf iv).toNat)
  case atStart => exact ⟨0, rfl, Nat.zero_le _, rfl, rfl, hst0.out⟩
  case round =>
    obtain ⟨k, rfl, hk, rfl, hft, st⟩ := hrel
    clear hst0
    obtain ⟨wo, hwo⟩ : ∃ wo, wo = wr := ⟨_, rfl⟩
    subst hwo
    by_cases hlt : k < ns
    · have hlt2 : k < sets.length := by have := hns.out; omega
      have hk2 : (k : Int) < (ns : Int) := by omega
      have hk16 : (k : Int) ≤ 16 := by omega
      obtain ⟨b, off, sa, sc, rfl, hbl, sc0, hT⟩ := hS.out.at k hlt2
      have q0 : wo.cell? ⟨b, off + k, none⟩ = some (.slice sa sets[k].length sc) := bcell st.out.below sc0
      have g1 : wo.cell? ⟨w.heap.size, 1, none⟩ = some (.slice ae n ce) := st.out.arg.cell 1
      obtain ⟨L, hL⟩ : ∃ L, L = sets[k].length := ⟨_, rfl⟩
      have hfit' : Hid (L = n → fitB n sets (k + 1) = true) := fun h => fitB_next hlt2 hft.out (by rw [← h, hL])
      have hsrc : Hid (L ≠ n → srcB G sets = false) := fun h => srcB_no3 hlt2 (by rw [← hL, ← hn.out]; exact h)
      rw [← hL] at q0
      replace hL := Lib.hid hL
      replace hT := Lib.hid hT
      clear sc0
      by_cases hfit : L = n
      · obtain rfl : n = L := hfit.symm
        have hft2 := Lib.hid (hfit'.out rfl)
        clear hfit' hsrc hfit
        have hnn : (n != n) = false := by simp
        have hnn2 : ((n : Int) != (n : Int)) = false := by simp
        go_wp2
        go_loopw [43] (fun jv wr => ∃ j : Nat, j ≤ n ∧ jv = .int .i64 j ∧ Hid (Gr1 w ai ae al gi ci n ce gl cl ns r f (mixB n sets k j) wr)) (fun jv _ => n - (intOf jv).toNat)
        case atStart => exact ⟨0, Nat.zero_le _, rfl, st.out⟩
        case round =>
          obtain ⟨j, hj, rfl, st2⟩ := hrel
          clear st g1 q0
          by_cases hjl : j < n
          · have hj2 : (j : Int) < (n : Int) := by omega
            obtain ⟨b2, off2, rfl, hb2l, tc⟩ := hT.out.at j (by have := hL.out; omega)
            have tc2 := bcell st2.out.below tc
            have hjL : j < sets[k].length := by have := hL.out; omega
            obtain ⟨tv, htv⟩ : ∃ tv, tv = sets[k][j] := ⟨_, rfl⟩
            rw [← htv] at tc2
            have htv2 : Hid ((sets.getD k []).getD j false = tv) := by show _ = _; rw [htv]; simp [List.getD, hlt2, hjL]
            clear tc htv hjL
            cases tv with
            | false =>
              have st3 := Lib.hid (show Gr1 w ai ae al gi ci n ce gl cl ns r f (mixB n sets k (j + 1)) wr by rw [mixB_no htv2.out]; exact st2.out)
              clear st2 htv2
              go_wp2
              go_roundw
              case rel => exact ⟨j + 1, by omega, by go_num, st3.out⟩
              case measure => simp [intOf]; omega
            | true =>
              have c3 : wr.cell? ⟨f, 3, none⟩ = some (.slice (some ⟨r, 0, none⟩) n n) := st2.out.row.cell 3
              have cj : wr.cell? ⟨r, j, none⟩ = some (.int .u64 (bitsN sets j k : Nat)) := by
                rw [st2.out.bits.cell, u64c_at _ _ (by rw [mixB_len]; exact hjl), mixB_at _ _ _ _ hjl]
              have fj : wr.frozen? ⟨r, j, none⟩ = false := st2.out.bits.free j
              have hlt16 := Nat.lt_of_lt_of_le (bitsN_lt sets j k) (Nat.pow_le_pow_right (n := 2) (by omega) (show k ≤ 16 by omega))
              have ob := or_bit (u := bitsN sets j k) (k := k) hlt16 (by omega)
              have st3 : Hid (Gr1 w ai ae al gi ci n ce gl cl ns r f (mixB n sets k (j + 1)) (wr.setCell ⟨r, j, none⟩ (.int .u64 (bits .or .u64 (bitsN sets j k : Int) (IntKind.u64.wrap (2 ^ k))))).drew) := by
                rw [ob, mixB_yes htv2.out]
                exact (st2.out.set hrw hrf j _).drew
              generalize bitsN sets j k = u at cj hlt16 st3 ob
              clear hlt16 ob st2 htv2
              go_wp2
              refine wp_region_still_tail 11 (by kernel_rfl) (by kernel_rfl) ?_
              simp only [List.take_succ_cons, List.take_zero, List.drop_succ_cons, List.drop_zero, World.drew_eq]
              repeat still_step
              refine wpStill_nil ?_
              go_wp2
              go_roundw
              case rel => exact ⟨j + 1, by omega, by go_num, st3.out⟩
              case measure => simp [intOf]; omega
          · obtain rfl : j = n := by omega
            have st3 := Lib.hid (show Gr1 w ai ae al gi ci j ce gl cl ns r f (mixB j sets (k + 1) 0) wr by rw [← mixB_next]; exact st2.out)
            clear st2
            go_wp2
            go_roundw
            case rel => exact ⟨k + 1, rfl, by omega, by go_num, hft2.out, st3.out⟩
            case measure => simp [intOf]; omega
      · have hR := Lib.hid (hsrc.out hfit)
        have hnn : (L != n) = true := by simpa using hfit
        have hnn2 : ((L : Int) != (n : Int)) = true := by simp; omega
        have hbr := Lib.hid st.out.below
        clear hfit' hsrc hfit
        go_wp2
        go_ret
        exact ⟨hbr.out, .inr ⟨hR.out, rfl⟩⟩
    · obtain rfl : k = ns := by omega
      have hR := Lib.hid (srcB_yes (G := G) (sets := sets) hc0.out (by have := hns.out; omega) (by rw [← hn.out, ← hns.out]; exact hft.out))
      have hm := Lib.hid (show mixB n sets k 0 = inbits n sets by rw [hns.out]; exact mixB_end n sets)
      rw [hm.out] at st
      clear hm hft hlt
      have g0 : wo.cell? ⟨w.heap.size, 0, none⟩ = some (.slice ai gi ci) := st.out.arg.cell 0
      have g2 : wo.cell? ⟨w.heap.size, 2, none⟩ = some (.slice al gl cl) := st.out.arg.cell 2
      have C1 := Lib.hid (fun wr (hb : Below w.heap.size w wr) => clone_ints wr ai gi ci G.init (hG1.out wr hb).init hgi.out (by have := ok.out.initL; have := hgi.out; omega))
      have C2 := Lib.hid (fun wr (hb : Below w.heap.size w wr) => clone_u64s wr al gl cl (natI G.labels) (hG1.out wr hb).labels (by rw [natI_len]; exact hgl.out) (by have := ok.out.labsL; have := hgl.out; omega))
      have hbo := Lib.hid st.out.below
      have hal := Lib.hid st.out.arg
      have hro := Lib.hid st.out.row
      have hbt := Lib.hid st.out.bits
      clear st
      go_wp2
      go_upto_region 16 with (fail)
      go_cut [71] (fun _ wx => ∃ a4 c4 a5 c5 B, Hid (Gr2 w ai ae al a4 a5 none gi ci n ce gl cl k r f B c4 c5 0 G (inbits n sets) [] wx))
      case first =>
       go_region_law (first
        | (go_simp; go_at_call 36; (with_reducible refine (C2.out _ (btrans hbo.out B1)).mono ?_); rintro e w5 ⟨a5, c5, rfl, ho5, hb5⟩; have B2 := btrans B1 hb5; have rf5 := hro.out.below B2; have x0 : w5.frozen? ⟨f, 0, none⟩ = false := rf5.free 0; have x1 : w5.frozen? ⟨f, 1, none⟩ = false := rf5.free 1; have x2 : w5.frozen? ⟨f, 2, none⟩ = false := rf5.free 2; have y0 : w5.cell? ⟨f, 0, none⟩ = some (.slice none 0 0) := rf5.cell 0; have y1 : w5.cell? ⟨f, 1, none⟩ = some (.slice none 0 0) := rf5.cell 1; have y2 : w5.cell? ⟨f, 2, none⟩ = some (.slice none 0 0) := rf5.cell 2; replace ho5 := Lib.hid ho5; replace rf5 := Lib.hid rf5)
        | (go_simp; go_at_call 34; (with_reducible refine (C1.out _ hbo.out.drew).mono ?_); rintro e w4 ⟨a4, c4, rfl, ho4, hb4⟩; have B1 : Below wo.heap.size wo w4 := ⟨hb4.os, hb4.tape, hb4.output, hb4.size, hb4.block⟩; have ha4 := hal.out.below B1; have k0 : w4.cell? ⟨w.heap.size, 0, none⟩ = some (.slice ai gi ci) := ha4.cell 0; have k2 : w4.cell? ⟨w.heap.size, 2, none⟩ = some (.slice al gl cl) := ha4.cell 2; replace ho4 := Lib.hid ho4; replace ha4 := Lib.hid ha4))
       all_goals (
        go_wp2_with fail
        go_meet
        exact ⟨a4, c4, a5, c5, w5.heap.size, Gr2.start hrw hrf hbo.out hro.out hbt.out hal.out B2 hb5 B1.size ho4.out ho5.out hgi.out hgl.out⟩)
      case rest =>
        obtain ⟨a4, c4, a5, c5, B, g2⟩ := hcut
        have EE := Lib.hid (fun wr (hb : Below w.heap.size w wr) => (hG1.out wr hb).edges)
        have hE2 := Lib.hid ok.out.rows
        clear C1 C2 hbo hal hro hbt g0 hG1
        have g1 : wc.cell? ⟨w.heap.size, 1, none⟩ = some (.slice ae n ce) := g2.out.arg.cell 1
        go_wp2
        go_loopw [75] (fun iv wr => ∃ (i ec : Nat) (ea : Option Addr) (S : List ER), i ≤ n ∧ iv = .int .i64 i ∧ Hid (rowsOf S = G.edges.take i) ∧ Hid (S.length = i) ∧ Hid (Gr2 w ai ae al a4 a5 ea gi ci n ce gl cl k r f B c4 c5 ec G (inbits n sets) S wr)) (fun iv _ => n - (intOf iv).toNat)
        case atStart => exact ⟨0, 0, none, [], Nat.zero_le _, rfl, rfl, rfl, g2.out⟩
        case round =>
          obtain ⟨i, ec, ea, S, hi, rfl, hS1, hS2, st⟩ := hrel
          clear g1 g2
          by_cases hil : i < n
          · have hil2 : i < G.edges.length := by have := hn.out; omega
            have hi2 : (i : Int) < (n : Int) := by omega
            obtain ⟨b, off, a2, c2, rfl, hbl, q0, hq, hp⟩ := (EE.out wr st.out.below).at i hil2
            have hp' := Lib.hid (fun w' (hb : Below wr.heap.size wr w') => hp.below hb)
            have hlen : Hid (G.edges[i].length * 16 ≤ 140737488355328) := by have := hE2.out _ (List.getElem_mem hil2); show _ ≤ _; omega
            have hnext : Hid (∀ s : ER, s.2.2 = G.edges[i] → rowsOf (S ++ [s]) = G.edges.take (i + 1)) := fun s hs => by
              rw [rowsOf_snoc, hS1.out, hs, List.take_add_one, List.getElem?_eq_getElem hil2]
              rfl
            generalize G.edges[i] = es at q0 hp hp' hlen hnext
            have CP := Lib.hid (fun w' (hb : Below wr.heap.size wr w') => clone_pairs w' a2 es.length c2 es (hp'.out w' hb) rfl hlen.out)
            have f1 : wr.cell? ⟨f, 1, none⟩ = some (.slice ea S.length ec) := st.out.row.cell 1
            have hn24b : n * 24 ≤ 140737488351232 := by have := ok.out.edgesL; have := hn.out; omega
            have n5 : Hid (S.length + 1 ≤ maxLen) := by show _ ≤ _; unfold maxLen; have := hS2.out; omega
            have y5 : Hid ((S.length + 1) * 24 ≤ 140737488355328) := by show _ ≤ _; have := hS2.out; omega
            have nx2 := Lib.hid (fun (a3 : Option Addr) (c3 : Nat) => hnext.out (a3, c3, es) rfl)
            have T2 : Hid (∀ (w4 : World), Below wr.heap.size wr w4 → ∀ o, OwnR (w4.alloc o) B TEs 1 ea S.length ec (S.map ecell) ∧ w4.cell? ⟨f, 1, none⟩ = some (.slice ea S.length ec) ∧ B ≤ (w4.alloc o).heap.size ∧ f < w4.heap.size) := fun w4 hb o => by
              refine ⟨((st.out.es.below hb).below (balloc (Below.refl _ _) _)).own, bcell hb f1, ?_, World.block_lt_of_cell? w4 _ (bcell hb f1)⟩
              have := st.out.hB
              have := hb.size
              have := (balloc (Below.refl w4.heap.size w4) o).size
              omega
            have T3 : Hid (∀ (w4 w5 : World) (o : Obj), Below wr.heap.size wr w4 → (w4.alloc o).grownBy w5 (OB ea S.length ec) → w5.frozen? ⟨f, 1, none⟩ = false ∧ w5.cell? ⟨f, 1, none⟩ = some (.slice ea S.length ec)) := fun w4 w5 o hb hg => by
              have hk1 : Keeps wr w5 (fun j => OB ea S.length ec = some j) := (Keeps.of_below (S := fun j => OB ea S.length ec = some j) (btrans hb (balloc (Below.refl _ _) o))).trans (Keeps.of_grown (S := fun j => OB ea S.length ec = some j) hg (fun j e => e)) (fun _ _ h => h)
              have hr := st.out.row.keeps hk1 (fun e => by have := (OwnR.lt st.out.es.own e).1; have := st.out.hf; omega)
              exact ⟨hr.free 1, hr.cell 1⟩
            clear hp hp' hq hS1 hn24b hnext
            go_upto_block 5 with (fail)
            go_cut [91] (fun _ wx => ∃ a3 c3 ea2 ec2, Hid (Gr2 w ai (some ⟨b, off, none⟩) al a4 a5 ea2 gi ci n ce gl cl k r f B c4 c5 ec2 G (inbits n sets) (S ++ [(a3, c3, es)]) wx))
            case first =>
             go_wp2
             go_region_law (first
              | (go_simp; go_at_call 37; (with_reducible refine (CP.out _ (Below.refl _ _).drew).mono ?_); rintro e w4 ⟨a3, c3, rfl, ho4, hb4⟩; have B1 : Below wr.heap.size wr w4 := ⟨hb4.os, hb4.tape, hb4.output, hb4.size, hb4.block⟩; obtain ⟨OW, d1, hBA, hfl⟩ := T2.out w4 B1 (.cells #[.slice a3 es.length c3] TEs); replace OW := Lib.hid OW; replace hBA := Lib.hid hBA; replace ho4 := Lib.hid ho4; have nc := Lib.hid (new_cells w4 #[.slice a3 es.length c3] TEs rfl); have oc : Hid (∀ u ∈ [Value.slice a3 es.length c3], u.oneCell' = true) := (fun u hu => by simp at hu; rw [hu]; rfl))
              | (refine step_appR ?_ (.tmp 84) (.tmp 87) 23 TEs (.slice none 0 0) 1 24 ?_ Try.underlying23 infoEs rfl (by decide) B ea S.length ec (S.map ecell) ?_ OW.out w4.heap.size 1 [.slice a3 es.length c3] ?_ rfl nc.out oc.out n5.out y5.out hBA.out ?_; exact rfl; exact rfl; exact rfl; exact rfl; intro a6 c6 w5 ho5 hg5 hat5; obtain ⟨f5, d5⟩ := T3.out w4 w5 _ B1 hg5; replace ho5 := Lib.hid ho5; replace hg5 := Lib.hid hg5; replace hat5 := Lib.hid hat5))
             all_goals (
              go_wp2_with fail
              go_meet
              exact ⟨a3, c3, a6, c6, Gr2.app (s := (a3, c3, es)) st.out hrw hrf B1 ho4.out ho5.out hg5.out hat5.out⟩)
            case rest =>
              obtain ⟨a3, c3, ea2, ec2, st2⟩ := hcut
              have h2 : Hid ((S ++ [(a3, c3, es)]).length = i + 1) := by show _ = _; rw [List.length_append, hS2.out]; rfl
              have h1 := Lib.hid (nx2.out a3 c3)
              clear st hS2 nx2 T2 T3 CP f1
              go_wp2
              go_roundw
              case rel => exact ⟨i + 1, ec2, ea2, _, by omega, by go_num, h1.out, h2.out, st2.out⟩
              case measure => simp [intOf]; omega
          · obtain rfl : i = n := by omega
            have hfx := Lib.hid (st.out.fx hgi.out hn.out hgl.out (by simp [inbits]) (by rw [hS1.out, hn.out, List.take_length]) (gchk_good hc0.out).2.1)
            have hbr := Lib.hid st.out.below
            clear st hS1 hS2
            go_wp2
            go_ret
            refine ⟨hbr.out, .inl ⟨hR.out, f, rfl, ?_⟩⟩
            rw [← hn.out, ← hns.out]
            exact hfx.out
theorem graph_any (w : World) (ai ae al as_ : Option Addr) (ci ce cl cs : Nat) (G : GR) (sets : List (List Bool)) (hG : GAt w ai ae al G) (ok : GOk G) (hS : SetsAt w as_ sets) :
    Calls Try.prog 13 #[.agg #[.slice ai G.init.length ci, .slice ae G.edges.length ce, .slice al G.labels.length cl], .slice as_ sets.length cs] w (SrcMade G sets w) := by
  by_cases h1 : gchk G = 0
  · by_cases h2 : sets.length ≤ 16
    · exact graph_yes w ai ae al as_ ci ce cl cs G sets hG ok hS h1 h2
    · exact graph_no w ai ae al as_ ci ce cl cs G sets hG ok (.inr (by omega))
  · exact graph_no w ai ae al as_ ci ce cl cs G sets hG ok (.inl h1)
end Go.Proofs.Ytfcpfcgcfaacnaa
namespace Go.Proofs.Ytfcpfcgcfaacnaa
open Go.RowKit
abbrev TN : Nat := 88
theorem infoN : (Try.prog.info? TN).map (fun i => (i.zero, i.size, i.bytes)) = some (some (.agg #[.int .u64 0, .int .u64 0, .int .u64 0, .slice none 0 0]), 4, 48) := by kernel_rfl
abbrev TyI : Nat := 3
abbrev NR := Option Addr × Nat × AN
abbrev nob (s : NR) : Option Nat := OB s.1 s.2.2.to.length s.2.1
abbrev ncell (s : NR) : List Value := [.int .u64 s.2.2.need, .int .u64 s.2.2.ban, .int .u64 s.2.2.inn, .slice s.1 s.2.2.to.length s.2.1]
def nodesOf (S : List NR) : List AN := S.map fun s => s.2.2
def ncells (S : List NR) : List Value := S.flatMap ncell
theorem nodesOf_snoc (S : List NR) (s : NR) : nodesOf (S ++ [s]) = nodesOf S ++ [s.2.2] := by simp [nodesOf]
theorem nodesOf_len (S : List NR) : (nodesOf S).length = S.length := by simp [nodesOf]
theorem ncells_snoc (S : List NR) (s : NR) : ncells (S ++ [s]) = ncells S ++ ncell s := by simp [ncells]
theorem ncells_at : ∀ (S : List NR) (i : Nat) (hi : i < S.length), (ncells S)[i * 4]? = some (.int .u64 S[i].2.2.need) ∧ (ncells S)[i * 4 + 1]? = some (.int .u64 S[i].2.2.ban) ∧ (ncells S)[i * 4 + 2]? = some (.int .u64 S[i].2.2.inn) ∧ (ncells S)[i * 4 + 3]? = some (.slice S[i].1 S[i].2.2.to.length S[i].2.1)
  | s :: S, 0, _ => by simp [ncells]
  | s :: S, i + 1, hi => by
    have := ncells_at S i (by simpa using hi)
    simp only [ncells, List.flatMap_cons, List.getElem_cons_succ] at this ⊢
    rw [show (i + 1) * 4 = 4 + i * 4 by omega, show 4 + i * 4 + 1 = 4 + (i * 4 + 1) by omega, show 4 + i * 4 + 2 = 4 + (i * 4 + 2) by omega, show 4 + i * 4 + 3 = 4 + (i * 4 + 3) by omega]
    rw [List.getElem?_append_right (by simp), List.getElem?_append_right (by simp only [List.length_cons, List.length_nil]; omega), List.getElem?_append_right (by simp only [List.length_cons, List.length_nil]; omega), List.getElem?_append_right (by simp only [List.length_cons, List.length_nil]; omega)]
    simpa using this
structure NsOwn (w : World) (base : Nat) (a : Option Addr) (cap : Nat) (S : List NR) : Prop where
  own : OwnR w base TN 4 a S.length cap (ncells S)
  rows : ∀ s ∈ S, OwnN .i64 w base TyI s.1 s.2.2.to.length s.2.1 s.2.2.to
  ne : ∀ s ∈ S, ∀ j, nob s = some j → OB a S.length cap ≠ some j
def NsBlk (a : Option Addr) (cap : Nat) (S : List NR) (j : Nat) : Prop := OB a S.length cap = some j ∨ ∃ s ∈ S, nob s = some j
section
variable {w w' : World} {base : Nat} {a : Option Addr} {cap : Nat} {S : List NR}
theorem NsOwn.nil (w : World) (base : Nat) : NsOwn w base none 0 [] := ⟨OwnR.nil _ _ _ _, by simp, by simp⟩
theorem NsOwn.blk (h : NsOwn w base a cap S) {j : Nat} (hj : NsBlk a cap S j) : base ≤ j ∧ j < w.heap.size := by
  rcases hj with hj | ⟨s, hs, hj⟩
  · exact OwnR.lt h.own hj
  · exact (h.rows s hs).lt2 hj
theorem NsOwn.keeps {T : Nat → Prop} (h : NsOwn w base a cap S) (hk : Keeps w w' T) (hn : ∀ j, NsBlk a cap S j → ¬ T j) : NsOwn w' base a cap S :=
  ⟨OwnR.keeps h.own hk (fun j hj => hn j (.inl hj)), fun s hs => (h.rows s hs).keeps hk (fun j hj => hn j (.inr ⟨s, hs, hj⟩)), h.ne⟩
theorem NsOwn.below (h : NsOwn w base a cap S) (hb : Below w.heap.size w w') : NsOwn w' base a cap S := h.keeps (T := fun _ => False) (Keeps.of_below hb) (fun _ _ h => h)
theorem NsOwn.app (h : NsOwn w base a cap S) {s : NR} (hs : OwnN .i64 w base TyI s.1 s.2.2.to.length s.2.1 s.2.2.to) (hne : ∀ j, nob s = some j → OB a S.length cap ≠ some j) {wA w3 : World} (hA : Below w.heap.size w wA) {a' : Option Addr} {cap' : Nat}
    (ho : OwnR w3 base TN 4 a' (S.length + 1) cap' (ncells S ++ ncell s)) (hg : wA.grownBy w3 (OB a S.length cap)) (hat : OB a' (S.length + 1) cap' = OB a S.length cap ∨ OB a' (S.length + 1) cap' = some wA.heap.size) : NsOwn w3 base a' cap' (S ++ [s]) := by
  have hk : Keeps w w3 (fun j => OB a S.length cap = some j) := (Keeps.of_below (S := fun j => OB a S.length cap = some j) hA).trans (Keeps.of_grown (S := fun j => OB a S.length cap = some j) hg (fun j e => e)) (fun _ _ h => h)
  have hl : (S ++ [s]).length = S.length + 1 := by simp
  have hz := hA.size
  refine ⟨?_, fun t ht => ?_, fun t ht j hj => ?_⟩
  · rw [hl, ncells_snoc]
    exact ho
  · rcases List.mem_append.1 ht with h1 | h1
    · exact (h.rows t h1).keeps hk (fun j hj => h.ne t h1 j hj)
    · simp only [List.mem_singleton] at h1
      subst h1
      exact hs.keeps hk hne
  · rw [hl]
    rcases List.mem_append.1 ht with h1 | h1
    · rcases hat with h2 | h2
      · rw [h2]; exact h.ne t h1 j hj
      · rw [h2]
        have := ((h.rows t h1).lt2 hj).2
        simp only [ne_eq, Option.some.injEq]
        omega
    · simp only [List.mem_singleton] at h1
      subst h1
      rcases hat with h2 | h2
      · rw [h2]; exact hne j hj
      · rw [h2]
        have := (hs.lt2 hj).2
        simp only [ne_eq, Option.some.injEq]
        omega
theorem NsOwn.nodes (h : NsOwn w base a cap S) : NodesAt w a (nodesOf S) := by
  intro h0
  rw [nodesOf_len] at h0
  obtain ⟨g, rfl, _, _⟩ := OwnR.addr h.own h0
  refine ⟨g, 0, rfl, fun i hi => ?_⟩
  rw [nodesOf_len] at hi
  have e : (nodesOf S)[i]'(by rw [nodesOf_len]; exact hi) = S[i].2.2 := by simp [nodesOf]
  obtain ⟨k0, k1, k2, k3⟩ := ncells_at S i hi
  rw [e, Nat.zero_add]
  exact ⟨(OwnR.cell h.own _ (by omega)).trans k0, (OwnR.cell h.own _ (by omega)).trans k1, (OwnR.cell h.own _ (by omega)).trans k2, S[i].1, S[i].2.1, (OwnR.cell h.own _ (by omega)).trans k3, NumsAt.of_owns (h.rows _ (List.getElem_mem hi))⟩
end
theorem OwnN.base {k : IntKind} {w : World} {b base e n cap : Nat} {a : Option Addr} {xs : List Int} (h : OwnN k w base e a n cap xs) (hb : b ≤ base) : OwnN k w b e a n cap xs := OwnR.base (sz := 1) (cells := xs.map (Value.int k)) h hb
end Go.Proofs.Ytfcpfcgcfaacnaa
namespace Go.Proofs.Ytfcpfcgcfaacnaa
open Go.RowKit
abbrev TA : Nat := 30
abbrev auv (ai an : Option Addr) (ci cn : Nat) (A : AU) : Value := .agg #[.int .i64 A.sets, .slice ai A.init.length ci, .slice an A.nodes.length cn]
theorem new_nil (w : World) (ai an : Option Addr) (ci cn : Nat) (A : AU) :
    Calls Try.prog 12 #[.nilIface, auv ai an ci cn A] w fun e w' => e = .returned (.pointer none) ∧ Below w.heap.size w w' := by
  go_enter Try.func12, Try.ntmps12
  go_wp2
  go_ret
  exact ⟨rfl, balloc (Below.refl _ _) _⟩
theorem methSets : ∀ (r : TypeId) (f : Nat) (w : World), Sem.run Try.prog (method (r + 1) TFp (.pointer (some ⟨f, 0, none⟩)) "Sets") w = Result.ok (106, .pointer (some ⟨f, 0, none⟩)) w := by
  intro r f w
  kernel_rfl
set_option maxHeartbeats 4000000 in
theorem new_no (w : World) (ai an : Option Addr) (ci cn f : Nat) (G : GR) (inb : List Nat) (ns : Nat) (A : AU) (hF : FxAt w f G inb ns) (hns : ns ≤ 16) (hA : AuAt w ai A.init.length an A.nodes.length A) (aok : AuOk A) (hc : chk A ≠ 0) :
    Calls Try.prog 12 #[.iface TFp (.pointer (some ⟨f, 0, none⟩)), auv ai an ci cn A] w fun e w' => e = .returned (.pointer none) ∧ Below w.heap.size w w' := by
  obtain ⟨w1, hw1⟩ : ∃ w1, w.alloc (.cells #[.int .i64 A.sets, .slice ai A.init.length ci, .slice an A.nodes.length cn] TA) = w1 := ⟨_, rfl⟩
  have hb1 : Below w.heap.size w w1 := by rw [← hw1]; exact balloc (Below.refl _ _) _
  have ha : RowAt w1 w.heap.size TA [.int .i64 A.sets, .slice ai A.init.length ci, .slice an A.nodes.length cn] := by rw [← hw1]; exact RowAt.new #[.int .i64 A.sets, .slice ai A.init.length ci, .slice an A.nodes.length cn] rfl
  have a0 : w1.cell? ⟨w.heap.size, 0, none⟩ = some (.int .i64 A.sets) := ha.cell 0
  have a1 : w1.cell? ⟨w.heap.size, 1, none⟩ = some (.slice ai A.init.length ci) := ha.cell 1
  have a2 : w1.cell? ⟨w.heap.size, 2, none⟩ = some (.slice an A.nodes.length cn) := ha.cell 2
  have FS := Lib.hid (fun wr (hb : Below w.heap.size w wr) => fsets_any wr f G inb ns (hF.below hb))
  have CH := check_any w1 ai an ci cn A (hA.below hb1) aok
  generalize chk A = c at hc CH
  replace CH := Lib.hid CH
  have hcb : (c != 0) = true := by simpa using hc
  have hM := methSets
  have d1 : decide ((ns : Int) < 0) = false := by simp
  have d2 : decide (16 < (ns : Int)) = false := by simp; omega
  replace hb1 := Lib.hid hb1
  clear hA aok ha hF hc
  go_enter Try.func12, Try.ntmps12
  go_wp2_with fail
  refine (FS.out _ hb1.out).mono ?_
  rintro e w2 ⟨rfl, rfl⟩
  go_wp2_with fail
  refine (FS.out _ hb1.out).mono ?_
  rintro e w2 ⟨rfl, rfl⟩
  go_wp2_with fail
  refine CH.out.mono ?_
  rintro e w2 ⟨rfl, hb2⟩
  go_wp2
  go_ret
  exact ⟨rfl, btrans hb1.out hb2⟩
structure Nw (w : World) (ai an a4 ea : Option Addr) (gi ci n cn sn p B c4 ec f : Nat) (all : Int) (A : AU) (S : List NR) (wr : World) : Prop where
  row : RowAt wr p TPr [.iface TFp (.pointer (some ⟨f, 0, none⟩)), .int .i64 sn, .slice a4 gi c4, .slice ea S.length ec, .int .i64 all]
  i1 : NumsAt .i64 wr a4 A.init
  l1 : ∀ ad, a4 = some ad → ad.block < B ∧ ad.block ≠ p
  arg : RowAt wr w.heap.size TA [.int .i64 sn, .slice ai gi ci, .slice an n cn]
  below : Below w.heap.size w wr
  es : NsOwn wr B ea ec S
  hB : B ≤ wr.heap.size
  hp : p < B
  hw : w.heap.size < p
theorem Nw.start {w wo w4 : World} {ai an a4 : Option Addr} {gi ci n cn sn p c4 f T : Nat} {all : Int} {A : AU} (hw : w.heap.size < p) (hb : Below w.heap.size w wo) (hrow : RowAt wo p TPr [.iface TFp (.pointer (some ⟨f, 0, none⟩)), .int .i64 0, .slice none 0 0, .slice none 0 0, .int .i64 all]) (harg : RowAt wo w.heap.size TA [.int .i64 sn, .slice ai gi ci, .slice an n cn])
    (B1 : Below wo.heap.size wo w4) (ho4 : OwnN .i64 w4 wo.heap.size T a4 A.init.length c4 A.init) (e1 : gi = A.init.length) :
    Nw w ai an a4 none gi ci n cn sn p w4.heap.size c4 0 f all A [] (((w4.setCell ⟨p, 1, none⟩ (.int .i64 sn)).setCell ⟨p, 2, none⟩ (.slice a4 A.init.length c4)).setCell ⟨p, 3, none⟩ (.slice none 0 0)) := by
  have hpl := hrow.lt
  have hz := B1.size
  have k0 : Keeps w4 (w4.setCell ⟨p, 1, none⟩ (.int .i64 sn)) (fun j => j = p) := Keeps.set _ _ _ _ rfl
  have k1 := k0.trans (Keeps.set (S := fun j => j = p) _ p 2 (.slice a4 A.init.length c4) rfl) (fun _ _ h => h)
  have k2 := k1.trans (Keeps.set (S := fun j => j = p) _ p 3 (.slice none 0 0) rfl) (fun _ _ h => h)
  have l4 : ∀ ad, a4 = some ad → ad.block < w4.heap.size ∧ ad.block ≠ p := fun ad had => by
    have := ho4.lt2 (j := ad.block) (by rw [had]; rfl)
    omega
  refine ⟨?_, NumsAt.keeps (NumsAt.of_owns ho4) k2 (fun ad had => (l4 ad had).2), l4, (harg.below B1).keeps k2 (by omega), k2.below (btrans hb B1) (fun j e => by omega), NsOwn.nil _ _, k2.size, by omega, hw⟩
  rw [e1]
  exact (((hrow.below B1).set 1 (.int .i64 sn)).set 2 (.slice a4 A.init.length c4)).set 3 (.slice none 0 0)
theorem Nw.app {w wr : World} {ai an a4 ea : Option Addr} {gi ci n cn sn p B c4 ec f : Nat} {all : Int} {A : AU} {S : List NR} (h : Nw w ai an a4 ea gi ci n cn sn p B c4 ec f all A S wr) {w4 w5 : World} (hb : Below wr.heap.size wr w4) {s : NR} (hs : OwnN .i64 w4 B TyI s.1 s.2.2.to.length s.2.1 s.2.2.to) (hsn : ∀ j, nob s = some j → wr.heap.size ≤ j)
    {a' : Option Addr} {c' : Nat} {wA : World} (hA : Below w4.heap.size w4 wA) (ho : OwnR w5 B TN 4 a' (S.length + 1) c' (ncells S ++ ncell s)) (hg : wA.grownBy w5 (OB ea S.length ec)) (hat : OB a' (S.length + 1) c' = OB ea S.length ec ∨ OB a' (S.length + 1) c' = some wA.heap.size) :
    Nw w ai an a4 a' gi ci n cn sn p B c4 c' f all A (S ++ [s]) (w5.setCell ⟨p, 3, none⟩ (.slice a' (S.length + 1) c')) := by
  have hbA : Below wr.heap.size wr wA := btrans hb hA
  have hob : ∀ j, OB ea S.length ec = some j → B ≤ j ∧ j < wr.heap.size := fun j hj => OwnR.lt h.es.own hj
  have hp := h.hp
  have hw := h.hw
  have hBz := h.hB
  have hk1 : Keeps wr w5 (fun j => OB ea S.length ec = some j) := (Keeps.of_below (S := fun j => OB ea S.length ec = some j) hbA).trans (Keeps.of_grown (S := fun j => OB ea S.length ec = some j) hg (fun j e => e)) (fun _ _ h => h)
  have hk2 : Keeps wr w5 (fun j => OB ea S.length ec = some j ∨ j = p) := (Keeps.of_below (S := fun j => OB ea S.length ec = some j ∨ j = p) hbA).trans (Keeps.of_grown (S := fun j => OB ea S.length ec = some j ∨ j = p) hg (fun j e => .inl e)) (fun _ _ h => h)
  have hk := hk2.trans (Keeps.set (S := fun j => OB ea S.length ec = some j ∨ j = p) w5 p 3 (.slice a' (S.length + 1) c') (.inr rfl)) (fun _ _ h => h)
  have hes := (h.es.below hb).app hs (fun j hj e => by have := hsn j hj; have := (hob j e).2; omega) hA ho hg hat
  have el : (S ++ [s]).length = S.length + 1 := by simp
  refine ⟨?_, h.i1.keeps hk (fun ad had e => ?_), h.l1, h.arg.keeps hk (fun e => ?_), hk.below h.below (fun j e => ?_), hes.keeps (Keeps.set (S := fun j => j = p) w5 p 3 (.slice a' (S.length + 1) c') rfl) (fun j hj e => ?_), Nat.le_trans hBz hk.size, hp, hw⟩
  · rw [el]
    exact (h.row.keeps hk1 (fun e => by have := (hob _ e).1; omega)).set 3 _
  · have := h.l1 ad had
    rcases e with e | e
    · have := (hob _ e).1; omega
    · omega
  · rcases e with e | e
    · have := (hob _ e).1; omega
    · omega
  · rcases e with e | e
    · have := (hob _ e).1; omega
    · omega
  · have := (hes.blk hj).1
    omega
set_option maxHeartbeats 4000000 in
theorem new_yes (w : World) (ai an : Option Addr) (ci cn f : Nat) (G : GR) (inb : List Nat) (ns : Nat) (A : AU) (hF : FxAt w f G inb ns) (hns : ns ≤ 16) (hA : AuAt w ai A.init.length an A.nodes.length A) (aok : AuOk A) (hc : chk A = 0) :
    Calls Try.prog 12 #[.iface TFp (.pointer (some ⟨f, 0, none⟩)), auv ai an ci cn A] w fun e w' => ∃ p, e = .returned (.pointer (some ⟨p, 0, none⟩)) ∧ Below w.heap.size w w' ∧ ∀ sets, ns = sets.length → inb = inbits G.edges.length sets → srcB G sets = true → GOk G → PrAt w' p G sets A := by
  obtain ⟨s0, s16, n256⟩ := chk_sets hc
  obtain ⟨sn, hsn⟩ := Int.eq_ofNat_of_zero_le s0
  obtain ⟨gi, hgi⟩ : ∃ x, x = A.init.length := ⟨_, rfl⟩
  obtain ⟨n, hn⟩ : ∃ x, x = A.nodes.length := ⟨_, rfl⟩
  obtain ⟨w1, hw1⟩ : ∃ w1, w.alloc (.cells #[.int .i64 A.sets, .slice ai A.init.length ci, .slice an A.nodes.length cn] TA) = w1 := ⟨_, rfl⟩
  have hb1 : Below w.heap.size w w1 := by rw [← hw1]; exact balloc (Below.refl _ _) _
  have ha : RowAt w1 w.heap.size TA [.int .i64 A.sets, .slice ai A.init.length ci, .slice an A.nodes.length cn] := by rw [← hw1]; exact RowAt.new #[.int .i64 A.sets, .slice ai A.init.length ci, .slice an A.nodes.length cn] rfl
  have FS := Lib.hid (fun wr (hb : Below w.heap.size w wr) => fsets_any wr f G inb ns (hF.below hb))
  have HA := Lib.hid (fun wr (hb : Below w.heap.size w wr) => hA.below hb)
  have CH := check_any w1 ai an ci cn A (hA.below hb1) aok
  unfold auv
  rw [hc] at CH
  simp only [hsn, ← hgi, ← hn] at CH ha hw1 ⊢
  have a0 : w1.cell? ⟨w.heap.size, 0, none⟩ = some (.int .i64 sn) := ha.cell 0
  have a1 : w1.cell? ⟨w.heap.size, 1, none⟩ = some (.slice ai gi ci) := ha.cell 1
  have a2 : w1.cell? ⟨w.heap.size, 2, none⟩ = some (.slice an n cn) := ha.cell 2
  replace CH := Lib.hid CH
  have hM := methSets
  have d1 : decide ((ns : Int) < 0) = false := by simp
  have d2 : decide (16 < (ns : Int)) = false := by simp; omega
  have hws : IntKind.i64.wrap ((sn : Int) + (ns : Int)) = ((sn + ns : Nat) : Int) := by rw [show (sn : Int) + (ns : Int) = ((sn + ns : Nat) : Int) by push_cast; rfl]; exact IntWalk.i64_in _ (by omega)
  replace hb1 := Lib.hid hb1
  replace ha := Lib.hid ha
  replace hgi := Lib.hid hgi
  replace hn := Lib.hid hn
  replace hsn := Lib.hid hsn
  replace hc := Lib.hid hc
  replace aok := Lib.hid aok
  replace hF := Lib.hid hF
  clear hA
  go_enter Try.func12, Try.ntmps12
  go_wp2_with fail
  refine (FS.out _ hb1.out).mono ?_
  rintro e w2 ⟨rfl, rfl⟩
  go_wp2_with fail
  refine (FS.out _ hb1.out).mono ?_
  rintro e w2 ⟨rfl, rfl⟩
  go_wp2_with fail
  refine CH.out.mono ?_
  rintro e w2 ⟨rfl, hb2⟩
  have ha2 := ha.out.below hb2
  have hb2' := Lib.hid (btrans hb1.out hb2)
  clear a0 a1 a2 hw1
  have a0 : w2.cell? ⟨w.heap.size, 0, none⟩ = some (.int .i64 sn) := ha2.cell 0
  have SB : Hid (∀ w', Below w2.heap.size w2 w' → w'.cell? ⟨w.heap.size, 0, none⟩ = some (.int .i64 sn)) := fun w' hb => bcell hb a0
  replace ha2 := Lib.hid ha2
  go_wp2
  go_region_held3 (fun w' => w'.cell? ⟨w.heap.size, 0, none⟩ = some (.int .i64 sn)) (first | exact a0 | exact SB.out _ (balloc (Below.refl _ _) _).drew) (first | (go_at_call 106; (first | (with_reducible refine (FS.out _ hb2'.out).mono ?_) | (with_reducible refine (FS.out _ hb2'.out.drew).mono ?_)); rintro e w5 ⟨rfl, rfl⟩))
  have hp0 : Hid (RowAt ((w2.alloc (.cells #[.iface TFp (.pointer (some ⟨f, 0, none⟩)), .int .i64 0, .slice none 0 0, .slice none 0 0, .int .i64 ((sn : Int) + (ns : Int))] TPr)).drew) w2.heap.size TPr [.iface TFp (.pointer (some ⟨f, 0, none⟩)), .int .i64 0, .slice none 0 0, .slice none 0 0, .int .i64 ((sn : Int) + (ns : Int))]) := (RowAt.new #[.iface TFp (.pointer (some ⟨f, 0, none⟩)), .int .i64 0, .slice none 0 0, .slice none 0 0, .int .i64 ((sn : Int) + (ns : Int))] rfl).drewN 1
  have hb3 : Hid (Below w2.heap.size w2 ((w2.alloc (.cells #[.iface TFp (.pointer (some ⟨f, 0, none⟩)), .int .i64 0, .slice none 0 0, .slice none 0 0, .int .i64 ((sn : Int) + (ns : Int))] TPr)).drew)) := (balloc (Below.refl _ _) _).drew
  have hpw : w.heap.size < w2.heap.size := ha2.out.lt
  generalize ((w2.alloc (.cells #[.iface TFp (.pointer (some ⟨f, 0, none⟩)), .int .i64 0, .slice none 0 0, .slice none 0 0, .int .i64 ((sn : Int) + (ns : Int))] TPr)).drew) = w3 at hp0 hb3 ⊢
  generalize w2.heap.size = p at hp0 hpw ⊢
  have hb3' := Lib.hid (btrans hb2'.out hb3.out)
  have ha3 := ha2.out.below hb3.out
  have a0 : w3.cell? ⟨w.heap.size, 0, none⟩ = some (.int .i64 sn) := ha3.cell 0
  have a1 : w3.cell? ⟨w.heap.size, 1, none⟩ = some (.slice ai gi ci) := ha3.cell 1
  replace ha3 := Lib.hid ha3
  have C1 := Lib.hid (fun wr (hb : Below w.heap.size w wr) => clone_ints wr ai gi ci A.init (HA.out wr hb).init hgi.out (by have := aok.out.initL; have := hgi.out; omega))
  go_upto_region 4 with (fail)
  go_cut [41] (fun _ wx => ∃ a4 c4 B, Hid (Nw w ai an a4 none gi ci n cn sn p B c4 0 f ((sn : Int) + (ns : Int)) A [] wx))
  case first =>
    go_region_law (first
      | (go_simp; go_at_call 34; (with_reducible refine (C1.out _ hb3'.out.drew).mono ?_); rintro e w4 ⟨a4, c4, rfl, ho4, hb4⟩; have B1 : Below w3.heap.size w3 w4 := ⟨hb4.os, hb4.tape, hb4.output, hb4.size, hb4.block⟩; have k0 : w4.cell? ⟨w.heap.size, 0, none⟩ = some (.int .i64 sn) := bcell B1 a0; have rp4 := hp0.out.below B1; have x1 : w4.frozen? ⟨p, 1, none⟩ = false := rp4.free 1; have x2 : w4.frozen? ⟨p, 2, none⟩ = false := rp4.free 2; have x3 : w4.frozen? ⟨p, 3, none⟩ = false := rp4.free 3; have y1 : w4.cell? ⟨p, 1, none⟩ = some (.int .i64 0) := rp4.cell 1; have y2 : w4.cell? ⟨p, 2, none⟩ = some (.slice none 0 0) := rp4.cell 2; have y3 : w4.cell? ⟨p, 3, none⟩ = some (.slice none 0 0) := rp4.cell 3; replace ho4 := Lib.hid ho4; replace rp4 := Lib.hid rp4))
    all_goals (
      go_wp2_with fail
      go_meet
      exact ⟨a4, c4, w4.heap.size, Nw.start hpw hb3'.out hp0.out ha3.out B1 ho4.out hgi.out⟩)
  case rest =>
    obtain ⟨a4, c4, B, st0⟩ := hcut
    have NN := Lib.hid (fun wr (hb : Below w.heap.size w wr) => (HA.out wr hb).nodes)
    clear C1 a0 a1 hb3' ha3 hp0 hb3 SB FS HA ha2 hws
    have a2 : wc.cell? ⟨w.heap.size, 2, none⟩ = some (.slice an n cn) := st0.out.arg.cell 2
    go_wp2
    go_loopw [45] (fun iv wr => ∃ (i ec : Nat) (ea : Option Addr) (S : List NR), i ≤ n ∧ iv = .int .i64 i ∧ Hid (nodesOf S = A.nodes.take i) ∧ Hid (S.length = i) ∧ Hid (Nw w ai an a4 ea gi ci n cn sn p B c4 ec f ((sn : Int) + (ns : Int)) A S wr)) (fun iv _ => n - (intOf iv).toNat)
    case atStart => exact ⟨0, 0, none, [], Nat.zero_le _, rfl, rfl, rfl, st0.out⟩
    case round =>
      obtain ⟨i, ec, ea, S, hi, rfl, hS1, hS2, st⟩ := hrel
      clear a2 st0
      by_cases hil : i < n
      · have hil2 : i < A.nodes.length := by have := hn.out; omega
        have hi2 : (i : Int) < (n : Int) := by omega
        obtain ⟨b, off, rfl, n0, n1, n2, ta, tc, n3, nt⟩ := (NN.out wr st.out.below).at i hil2
        have hlen : Hid (A.nodes[i].to.length * 8 ≤ 140737488355328) := by have := (aok.out.nodes _ (List.getElem_mem hil2)).2.2.2.1; show _ ≤ _; omega
        have hnext : Hid (∀ s : NR, s.2.2 = A.nodes[i] → nodesOf (S ++ [s]) = A.nodes.take (i + 1)) := fun s hs => by
          rw [nodesOf_snoc, hS1.out, hs, List.take_add_one, List.getElem?_eq_getElem hil2]
          rfl
        generalize A.nodes[i] = nd at n0 n1 n2 n3 nt hlen hnext
        obtain ⟨xn, xb, xi, xt⟩ := nd
        simp only at n0 n1 n2 n3 nt hlen hnext
        have CP := Lib.hid (fun w' (hb : Below wr.heap.size wr w') => clone_ints w' ta xt.length tc xt (nt.below hb) rfl hlen.out)
        clear nt hlen hS1
        go_upto_block 1 with (fail)
        go_cut [61] (fun _ wx => ∃ a3 c3 ea2 ec2, Hid (Nw w ai (some ⟨b, off, none⟩) a4 ea2 gi ci n cn sn p B c4 ec2 f ((sn : Int) + (ns : Int)) A (S ++ [(a3, c3, ⟨xn, xb, xi, xt⟩)]) wx))
        case first =>
          go_wp2_with fail
          have hAl : Hid (Below wr.heap.size wr (wr.alloc (.cells #[.int .u64 xn, .int .u64 xb, .int .u64 xi, .slice ta xt.length tc] TN))) := balloc (Below.refl _ _) _
          have hzA : Hid (RowAt (wr.alloc (.cells #[.int .u64 xn, .int .u64 xb, .int .u64 xi, .slice ta xt.length tc] TN)) wr.heap.size TN [.int .u64 xn, .int .u64 xb, .int .u64 xi, .slice ta xt.length tc]) := RowAt.new #[.int .u64 xn, .int .u64 xb, .int .u64 xi, .slice ta xt.length tc] rfl
          refine (CP.out _ hAl.out).mono ?_
          rintro e w4 ⟨a3, c3, rfl, ho4, hb4⟩
          have hz4 := hzA.out.below hb4
          have k3 : w4.cell? ⟨wr.heap.size, 3, none⟩ = some (.slice ta xt.length tc) := hz4.cell 3
          have kf3 : w4.frozen? ⟨wr.heap.size, 3, none⟩ = false := hz4.free 3
          replace ho4 := Lib.hid ho4
          replace hb4 := Lib.hid hb4
          replace hz4 := Lib.hid hz4
          go_wp2
          clear k3 kf3 n0 n1 n2 n3
          have B1 : Hid (Below wr.heap.size wr (w4.setCell ⟨wr.heap.size, 3, none⟩ (.slice a3 xt.length c3))) := bset (btrans hAl.out hb4.out) (Nat.le_refl _)
          have hz6 : Hid (RowAt (w4.setCell ⟨wr.heap.size, 3, none⟩ (.slice a3 xt.length c3)) wr.heap.size TN [.int .u64 xn, .int .u64 xb, .int .u64 xi, .slice a3 xt.length c3]) := hz4.out.set 3 _
          have hon : Hid (∀ j, OB a3 xt.length c3 = some j → wr.heap.size + 1 ≤ j) := fun j hj => by have := (ho4.out.lt2 hj).1; simp at this; omega
          have ho6 : Hid (OwnN .i64 (w4.setCell ⟨wr.heap.size, 3, none⟩ (.slice a3 xt.length c3)) B TyI a3 xt.length c3 xt) := by
            refine OwnN.keeps (S := fun j => j = wr.heap.size) (OwnN.base ho4.out ?_) (Keeps.set _ _ _ _ rfl) (fun j hj e => by have := hon.out j hj; omega)
            have := st.out.hB
            simp
            omega
          generalize w4.setCell ⟨wr.heap.size, 3, none⟩ (.slice a3 xt.length c3) = w6 at B1 hz6 ho6 ⊢
          have hr6 := st.out.row.below B1.out
          have p3 : w6.cell? ⟨p, 1 + 2, none⟩ = some (.slice ea S.length ec) := hr6.cell 3
          have hpl : p < w6.heap.size := hr6.lt
          have hzl : wr.heap.size < w6.heap.size := hz6.out.lt
          have z0 : w6.cell? ⟨wr.heap.size, 0, none⟩ = some (.int .u64 xn) := hz6.out.cell 0
          have z1 : w6.cell? ⟨wr.heap.size, 1, none⟩ = some (.int .u64 xb) := hz6.out.cell 1
          have z2 : w6.cell? ⟨wr.heap.size, 2, none⟩ = some (.int .u64 xi) := hz6.out.cell 2
          have z3 : w6.cell? ⟨wr.heap.size, 3, none⟩ = some (.slice a3 xt.length c3) := hz6.out.cell 3
          have OW : Hid (OwnR ((w6.alloc (.cells #[.int .u64 xn, .int .u64 xb, .int .u64 xi, .slice a3 xt.length c3] TN)).drew) B TN 4 ea S.length ec (ncells S)) := ((st.out.es.below B1.out).below (balloc (Below.refl _ _) (.cells #[.int .u64 xn, .int .u64 xb, .int .u64 xi, .slice a3 xt.length c3] TN)).drew).own
          have nc : Hid (∀ j u, [Value.int .u64 xn, .int .u64 xb, .int .u64 xi, .slice a3 xt.length c3][j]? = some u → ((w6.alloc (.cells #[.int .u64 xn, .int .u64 xb, .int .u64 xi, .slice a3 xt.length c3] TN)).drew).cell? ((⟨w6.heap.size, 0, none⟩ : Addr).add j) = some u) := new_cells w6 #[.int .u64 xn, .int .u64 xb, .int .u64 xi, .slice a3 xt.length c3] TN rfl
          have oc : Hid (∀ u ∈ [Value.int .u64 xn, .int .u64 xb, .int .u64 xi, .slice a3 xt.length c3], u.oneCell' = true) := fun u hu => by simp at hu; rcases hu with rfl | rfl | rfl | rfl <;> rfl
          have n5 : Hid (S.length + 1 ≤ maxLen) := by show _ ≤ _; unfold maxLen; have := hS2.out; omega
          have y5 : Hid ((S.length + 1) * 48 ≤ 140737488355328) := by show _ ≤ _; have := hS2.out; omega
          have hAA : Hid (Below w6.heap.size w6 ((w6.alloc (.cells #[.int .u64 xn, .int .u64 xb, .int .u64 xi, .slice a3 xt.length c3] TN)).drew)) := (balloc (Below.refl _ _) _).drew
          have hBA : Hid (B ≤ ((w6.alloc (.cells #[.int .u64 xn, .int .u64 xb, .int .u64 xi, .slice a3 xt.length c3] TN)).drew).heap.size) := by
            have := st.out.hB
            have := B1.out.size
            have := hAA.out.size
            show _ ≤ _
            omega
          have T3 : Hid (∀ (w5 : World), ((w6.alloc (.cells #[.int .u64 xn, .int .u64 xb, .int .u64 xi, .slice a3 xt.length c3] TN)).drew).grownBy w5 (OB ea S.length ec) → w5.frozen? ⟨p, 1 + 2, none⟩ = false ∧ w5.cell? ⟨p, 1 + 2, none⟩ = some (.slice ea S.length ec)) := fun w5 hg => by
            have hk1 : Keeps wr w5 (fun j => OB ea S.length ec = some j) := (Keeps.of_below (S := fun j => OB ea S.length ec = some j) (btrans B1.out hAA.out)).trans (Keeps.of_grown (S := fun j => OB ea S.length ec = some j) hg (fun j e => e)) (fun _ _ h => h)
            have hr := st.out.row.keeps hk1 (fun e => by have := (OwnR.lt st.out.es.own e).1; have := st.out.hp; omega)
            exact ⟨hr.free 3, hr.cell 3⟩
          replace hr6 := Lib.hid hr6
          go_region_law (first
            | (refine step_appR ?_ (.tmp 58) (.tmp 60) 28 TN (.agg #[.int .u64 0, .int .u64 0, .int .u64 0, .slice none 0 0]) 4 48 ?_ Try.underlying28 infoN rfl (by decide) B ea S.length ec (ncells S) ?_ OW.out w6.heap.size 1 [.int .u64 xn, .int .u64 xb, .int .u64 xi, .slice a3 xt.length c3] ?_ rfl nc.out oc.out n5.out y5.out hBA.out ?_; exact rfl; exact rfl; exact rfl; exact rfl; intro a6 c6 w5 ho5 hg5 hat5; obtain ⟨f5, d5⟩ := T3.out w5 hg5; replace ho5 := Lib.hid ho5; replace hg5 := Lib.hid hg5; replace hat5 := Lib.hid hat5))
          all_goals (
            go_wp2_with fail
            go_meet
            exact ⟨a3, c3, a6, c6, Nw.app (s := (a3, c3, ⟨xn, xb, xi, xt⟩)) st.out B1.out ho6.out (fun j hj => by have := hon.out j hj; omega) hAA.out ho5.out hg5.out hat5.out⟩)
        case rest =>
          obtain ⟨a3, c3, ea2, ec2, st2⟩ := hcut
          have h2 : Hid ((S ++ [(a3, c3, (⟨xn, xb, xi, xt⟩ : AN))]).length = i + 1) := by show _ = _; rw [List.length_append, hS2.out]; rfl
          have h1 := Lib.hid (hnext.out (a3, c3, ⟨xn, xb, xi, xt⟩) rfl)
          clear st hS2 hnext CP n0 n1 n2 n3
          go_wp2
          go_roundw
          case rel => exact ⟨i + 1, ec2, ea2, _, by omega, by go_num, h1.out, h2.out, st2.out⟩
          case measure => simp [intOf]; omega
      · obtain rfl : i = n := by omega
        have st2 := Lib.hid st.out
        have hS3 : Hid (nodesOf S = A.nodes) := by show _ = _; rw [hS1.out, hn.out, List.take_length]
        clear st
        go_wp2
        go_ret
        refine ⟨p, rfl, st2.out.below, fun sets hns hinb hsrc ok => ⟨f, a4, ea, c4, ec, ?_, ?_, ⟨rfl, rfl, st2.out.i1, ?_⟩, hsrc, hc.out, ok, aok.out⟩⟩
        · have h1 := st2.out.row
          rw [hgi.out] at h1
          have h2 : S.length = A.nodes.length := by rw [hS2.out, hn.out]
          rw [h2] at h1
          have h3 : ((sn : Int) + (ns : Int)) = ((allS sets A : Nat) : Int) := by unfold allS; rw [hsn.out, ← hns]; push_cast; omega
          rw [h3] at h1
          rw [hsn.out]
          exact h1
        · rw [← hns, ← hinb]
          exact hF.out.below st2.out.below
        · rw [← hS3.out]
          exact st2.out.es.nodes
def NewMade (G : GR) (sets : List (List Bool)) (A : AU) (w : World) (e : Ending) (w' : World) : Prop :=
  Below w.heap.size w w' ∧ ((newB G sets A = true ∧ ∃ p, e = .returned (.pointer (some ⟨p, 0, none⟩)) ∧ PrAt w' p G sets A) ∨ (newB G sets A = false ∧ e = .returned (.pointer none)))
theorem new_any (w : World) (ai an : Option Addr) (ci cn f : Nat) (G : GR) (sets : List (List Bool)) (A : AU) (hF : FxAt w f G (inbits G.edges.length sets) sets.length) (hs : srcB G sets = true) (ok : GOk G) (hA : AuAt w ai A.init.length an A.nodes.length A) (aok : AuOk A) :
    Calls Try.prog 12 #[.iface TFp (.pointer (some ⟨f, 0, none⟩)), auv ai an ci cn A] w (NewMade G sets A w) := by
  have h16 := (src_sets hs).2.1
  by_cases hc : chk A = 0
  · refine (new_yes w ai an ci cn f G _ _ A hF h16 hA aok hc).mono ?_
    rintro e w' ⟨p, rfl, hb, hp⟩
    exact ⟨hb, .inl ⟨by unfold newB; rw [hs, decide_eq_true hc]; rfl, p, rfl, hp sets rfl rfl hs ok⟩⟩
  · refine (new_no w ai an ci cn f G _ _ A hF h16 hA aok hc).mono ?_
    rintro e w' ⟨rfl, hb⟩
    exact ⟨hb, .inr ⟨by unfold newB; rw [decide_eq_false hc, Bool.and_false], rfl⟩⟩
end Go.Proofs.Ytfcpfcgcfaacnaa
