/- An automaton's first two lines are read, walked: the program's head and begin. Conditions: what the listed variables hold; short texts. -/
import Derived.Test.YtjacphcnanopjaaDoorAtK
namespace Go.Proofs.YtjacphcnanopjaaDoor
open Go.Shelf Go.RowKit
set_option linter.unusedVariables false
set_option linter.unusedSimpArgs false

theorem Tryd.sizeStr (w : World) : (sizeOf 9).run Tryd.prog w = .ok 1 w := by kernel_rfl
theorem StrsAt.cut {w : World} {a : Option Addr} {N : List (List UInt8)} (h : StrsAt w a N) {l cap : Nat} (hc : N.length ≤ cap) : StrsAt w (cutA a cap l 1) (N.drop l) := by
  intro h0
  rw [List.length_drop] at h0
  obtain ⟨b, off, rfl, hcell⟩ := h (by omega)
  rw [cutA_at (by omega)]
  refine ⟨b, off + l, rfl, fun i hi => ?_⟩
  rw [List.length_drop] at hi
  have := hcell (l + i) (by omega)
  rw [List.getElem_drop, Nat.add_assoc]
  exact this
/-- what reading a line gives -/
def LineV (w : World) (base g : Nat) (o : Option AU) (e : Ending) (w' : World) : Prop := (match o with
  | some B => e = .returned (.bool true) ∧ ∃ ia ic na nc cells, AuB TRd w' base g B ia ic na nc cells
  | none => e = .returned (.bool false)) ∧ Tame TRd base w w'
/-- numbers of texts, however it ends -/
theorem NumsV.any {w : World} {o : Option (List Int)} {e : Ending} {w' : World} (h : NumsV w o e w') : ∃ oa on oc b, e = .returned (.tuple #[.slice oa on oc, .bool b]) ∧ Below w.heap.size w w' := by
  cases o with
  | none => exact ⟨none, 0, 0, false, h.1, h.2⟩
  | some xs => obtain ⟨oa, oc, h1, h2, h3⟩ := h; exact ⟨oa, _, oc, true, h1, h3⟩
theorem neRI : TInt ≠ TRd := by decide
theorem neRA : TAn ≠ TRd := by decide
/-- what a first line, and a second one, say -/
def headO (A : AU) : Option (List Int) → Option AU
  | some [n] => some { A with sets := n }
  | _ => none
def begO (A : AU) : Option (List Int) → Option AU
  | some l => some { A with init := l }
  | none => none
theorem line_0 (A : AU) (L : List (List UInt8)) (h0 : 0 < L.length) : lineP A 0 L = if L[0] = [97, 117, 116, 111] then headO A (numsP L.tail) else none := by
  unfold lineP
  rw [if_pos rfl, List.head?_eq_getElem?, List.getElem?_eq_getElem h0]
  by_cases e : L[0] = [97, 117, 116, 111]
  · rw [if_pos e, if_pos (by rw [e])]
    match numsP L.tail with
    | none => rfl
    | some [] => rfl
    | some [n] => rfl
    | some (a :: b :: r) => rfl
  · rw [if_neg e, if_neg (fun h => by injection h with h; exact e h)]
theorem line_1 (A : AU) (L : List (List UInt8)) (h0 : 0 < L.length) : lineP A 1 L = if L[0] = [105, 110, 105, 116] then begO A (numsP L.tail) else none := by
  unfold lineP
  rw [if_neg (by decide), if_pos rfl, List.head?_eq_getElem?, List.getElem?_eq_getElem h0]
  by_cases e : L[0] = [105, 110, 105, 116]
  · rw [if_pos e, if_pos (by rw [e])]
    match numsP L.tail with
    | none => rfl
    | some l => rfl
  · rw [if_neg e, if_neg (fun h => by injection h with h; exact e h)]
/-- numbers behind a line's word -/
theorem tail_nums (w : World) (hd : Door w) (la : Option Addr) (lc : Nat) (L : List (List UInt8)) (hL : StrsAt w la L) (hc : L.length ≤ lc) (hl : L.length ≤ 1000000) (hs : ∀ f ∈ L, f.length ≤ 1000000) :
    Calls Tryd.prog 48 #[.slice (cutA la lc 1 1) (L.length - 1) (lc - 1)] w (NumsV w (numsP L.tail)) := by
  have h1 := numbers_any w hd (cutA la lc 1 1) (lc - 1) (L.drop 1) (hL.cut hc) (by rw [List.length_drop]; omega) (fun f hf => hs f (List.mem_of_mem_drop hf))
  rw [List.length_drop, List.drop_one] at h1
  exact h1
theorem OwnR.lowB {w : World} {B B' e sz n cap : Nat} {a : Option Addr} {cells : List Value} (h : OwnR w B e sz a n cap cells) (hb : B' ≤ B) : OwnR w B' e sz a n cap cells := by
  unfold OwnR at h ⊢
  refine ⟨h.1, ?_⟩
  rcases h.2 with h2 | ⟨g, e1, e2, e3, e4, e5⟩
  · exact .inl h2
  · exact .inr ⟨g, e1, e2, e3, Nat.le_trans hb e4, e5⟩
set_option maxRecDepth 8000 in
set_option maxHeartbeats 8000000 in
theorem head_any (w : World) (hd : Door w) (base g : Nat) (A : AU) (ia : Option Addr) (ic : Nat) (na : Option Addr) (nc : Nat) (cells : List Value) (S : AuB TRd w base g A ia ic na nc cells) (hbw : base ≤ w.heap.size) (la : Option Addr) (lc : Nat) (L : List (List UInt8)) (h0 : 0 < L.length) (hL : StrsAt w la L) (hc : L.length ≤ lc) (hl : L.length ≤ 1000000) (hs : ∀ f ∈ L, f.length ≤ 1000000) :
    Calls Tryd.prog 25 #[.pointer (some ⟨g, 0, none⟩), .slice la L.length lc] w fun e w' => LineV w base g (lineP A 0 L) e w' := by
  have NM := Lib.hid (tail_nums w hd la lc L hL hc hl hs)
  obtain ⟨b, off, ea, hcell⟩ := hL h0
  replace ea := Lib.hid ea
  obtain ⟨o, ho⟩ : ∃ o, o = lineP A 0 L := ⟨_, rfl⟩
  rw [← ho]
  have ho2 : o = if L[0] = [97, 117, 116, 111] then headO A (numsP L.tail) else none := by rw [ho]; exact line_0 A L h0
  have RC := fun v => run_cut_l (P := Tryd.prog) (kl := .i64) (L := (1 : Int)) Tryd.underlying41 Tryd.sizeStr la L.length lc 1 rfl h0 v
  have c1 : w.cell? ⟨b, off, none⟩ = some (.string ⟨(L[0]'h0).toArray⟩) := by
    have := hcell 0 h0
    rw [Nat.add_zero] at this
    exact this
  have CL := fun v (hb : Below w.heap.size w v) => bcell hb c1
  obtain ⟨q, hq⟩ : ∃ q : ByteArray, q = ⟨(L[0]'h0).toArray⟩ := ⟨_, rfl⟩
  have hqd : q.data.toList = L[0] := by rw [hq]
  rw [← hq] at CL
  replace CL := Lib.hid CL
  have NO : Hid (o = none → ∀ v, Tame TRd base w v → LineV w base g o (.returned (.bool false)) v) := fun e v hb => by subst e; exact ⟨rfl, hb⟩
  have hnI : (1 : Int) ≤ (L.length : Int) := by omega
  have hnI0 : (0 : Int) < (L.length : Int) := by omega
  have hnN : 0 < L.length := h0
  have hcI : (L.length : Int) ≤ (lc : Int) := by omega
  by_cases hw : L[0] = [97, 117, 116, 111]
  · have hqs : q = ⟨#[97, 117, 116, 111]⟩ := take_eta (hqd.trans hw)
    subst hqs
    rw [if_pos hw] at ho2
    generalize numsP L.tail = nm at NM ho2
    clear hq hqd hcell c1 hw ho hL hs hl hc hd
    generalize L.length = ln at *
    clear h0 hnN
    cases nm with
    | none =>
      have hf := Lib.hid (NO.out ho2)
      clear NO ho2
      go_enter Tryd.func25, Tryd.ntmps25
      go_wp2_with fail
      refine NM.out.mono ?_
      rintro e w1 hnm
      obtain ⟨rfl, hb1⟩ := hnm
      have z1 := hb1
      have d1 := CL.out w1 hb1
      have hg := Lib.hid (hf.out w1 (Tame.of_below hb1))
      clear hf NM CL hb1 z1
      have ea2 := ea.out
      subst ea2
      clear ea RC
      go_wp2
      go_ret
      exact hg.out
    | some xs =>
      by_cases h1 : xs.length = 1
      · obtain ⟨n, rfl⟩ : ∃ n, xs = [n] := by
          match xs, h1 with
          | [n], _ => exact ⟨n, rfl⟩
        have ho3 : o = some { A with sets := n } := ho2
        subst ho3
        clear NO ho2 h1
        go_enter Tryd.func25, Tryd.ntmps25
        go_wp2_with fail
        refine NM.out.mono ?_
        rintro e w1 hnm
        obtain ⟨oa, oc, rfl, own1, hb1⟩ := hnm
        have d1 := CL.out w1 hb1
        have S1 := S.below hb1 neRI
        have d2 : w1.cell? ⟨g, 0, none⟩ = some (.int .i64 A.sets) := S1.box.cell 0
        have df2 := S1.box.free 0
        obtain ⟨ab, ao, x, eo, cx, hx⟩ := (NumsAt.of_owns own1).at 0 (by simp)
        rw [Nat.add_zero] at cx
        have hx2 : x = n := by rw [hx.out]; rfl
        subst hx2
        have t1 := Tame.of_below (T := TRd) (base := base) hb1
        have bx := S1.box.set 0 (.int .i64 x)
        have kx : Keeps w1 (w1.setCell ⟨g, 0, none⟩ (.int .i64 x)) (fun j => j = g) := Keeps.set _ _ _ _ rfl
        have hg := S1.sets (B := { A with sets := x }) (ja := ia) (jc := ic) neRI neRA rfl kx bx (S1.init.tame (Tame.box kx S1.lo S1.box) neRI)
        have hf : Hid (LineV w base g (some { A with sets := x }) (.returned (.bool true)) (w1.setCell ⟨g, 0, none⟩ (.int .i64 x))) := ⟨⟨rfl, _, _, _, _, _, hg.1⟩, t1.trans hg.2⟩
        have ea2 := ea.out
        subst ea2
        clear ea RC
        subst eo
        clear hg kx bx t1 hx S1 own1 hb1 CL NM S
        go_wp2
        go_ret
        exact hf.out
      · have ho3 : o = none := by
          rw [ho2]
          match xs, h1 with
          | [], _ => rfl
          | [n], h1 => exact absurd rfl h1
          | a :: b :: r, _ => rfl
        have hf := Lib.hid (NO.out ho3)
        have h1B : ((xs.length : Int) != 1) = true := by rw [bne_iff_ne]; omega
        have h1N : (xs.length != 1) = true := by rw [bne_iff_ne]; exact h1
        clear NO ho2 ho3
        generalize hxl : xs.length = xl at *
        go_enter Tryd.func25, Tryd.ntmps25
        go_wp2_with fail
        refine NM.out.mono ?_
        rintro e w1 hnm
        obtain ⟨oa, oc, rfl, _, hb1⟩ := hnm
        rw [hxl]
        have z1 := hb1
        have d1 := CL.out w1 hb1
        have hg := Lib.hid (hf.out w1 (Tame.of_below hb1))
        clear hf NM CL hb1 z1
        have ea2 := ea.out
        subst ea2
        clear ea RC
        go_wp2
        go_ret
        exact hg.out
  · have hqs : ¬ q = ⟨#[97, 117, 116, 111]⟩ := fun e => hw (by rw [← hqd, e])
    have hqB := str_no hqs
    have hqB2 : (q.toList == [97, 117, 116, 111]) = false := by
      rw [beq_eq_false_iff_ne]
      intro e
      rw [ByteArray.toList_eq] at e
      exact hw (by rw [← hqd, e])
    rw [if_neg hw] at ho2
    have hf := Lib.hid (NO.out ho2)
    clear NO hq hqd hcell c1 hw ho hL hs hl hc hqs ho2 hd
    generalize L.length = ln at *
    clear h0 hnN
    go_enter Tryd.func25, Tryd.ntmps25
    go_wp2_with fail
    refine NM.out.mono ?_
    rintro e w1 hnm
    obtain ⟨oa, on, oc, bb, rfl, hb1⟩ := hnm.any
    clear hnm
    have z1 := hb1
    have d1 := CL.out w1 hb1
    have hg := Lib.hid (hf.out w1 (Tame.of_below hb1))
    clear hf NM CL hb1 z1
    have ea2 := ea.out
    subst ea2
    clear ea RC
    go_wp2
    go_ret
    exact hg.out
set_option maxRecDepth 8000 in
set_option maxHeartbeats 8000000 in
theorem begin_any (w : World) (hd : Door w) (base g : Nat) (A : AU) (ia : Option Addr) (ic : Nat) (na : Option Addr) (nc : Nat) (cells : List Value) (S : AuB TRd w base g A ia ic na nc cells) (hbw : base ≤ w.heap.size) (la : Option Addr) (lc : Nat) (L : List (List UInt8)) (h0 : 0 < L.length) (hL : StrsAt w la L) (hc : L.length ≤ lc) (hl : L.length ≤ 1000000) (hs : ∀ f ∈ L, f.length ≤ 1000000) (hgb : ∀ ad : Addr, la = some ad → ad.block ≠ g) :
    Calls Tryd.prog 26 #[.pointer (some ⟨g, 0, none⟩), .slice la L.length lc] w fun e w' => LineV w base g (lineP A 1 L) e w' := by
  have NM := Lib.hid (tail_nums w hd la lc L hL hc hl hs)
  obtain ⟨b, off, ea, hcell⟩ := hL h0
  have hbg : Hid (¬ b = g) := hgb _ ea
  replace ea := Lib.hid ea
  obtain ⟨o, ho⟩ : ∃ o, o = lineP A 1 L := ⟨_, rfl⟩
  rw [← ho]
  have ho2 : o = if L[0] = [105, 110, 105, 116] then begO A (numsP L.tail) else none := by rw [ho]; exact line_1 A L h0
  have RC := fun v => run_cut_l (P := Tryd.prog) (kl := .i64) (L := (1 : Int)) Tryd.underlying41 Tryd.sizeStr la L.length lc 1 rfl h0 v
  have c1 : w.cell? ⟨b, off, none⟩ = some (.string ⟨(L[0]'h0).toArray⟩) := by
    have := hcell 0 h0
    rw [Nat.add_zero] at this
    exact this
  have CL := fun v (hb : Below w.heap.size w v) => bcell hb c1
  obtain ⟨q, hq⟩ : ∃ q : ByteArray, q = ⟨(L[0]'h0).toArray⟩ := ⟨_, rfl⟩
  have hqd : q.data.toList = L[0] := by rw [hq]
  rw [← hq] at CL
  replace CL := Lib.hid CL
  have NO : Hid (o = none → ∀ v, Tame TRd base w v → LineV w base g o (.returned (.bool false)) v) := fun e v hb => by subst e; exact ⟨rfl, hb⟩
  have hnI : (1 : Int) ≤ (L.length : Int) := by omega
  have hnI0 : (0 : Int) < (L.length : Int) := by omega
  have hnN : 0 < L.length := h0
  have hcI : (L.length : Int) ≤ (lc : Int) := by omega
  by_cases hw : L[0] = [105, 110, 105, 116]
  · have hqs : q = ⟨#[105, 110, 105, 116]⟩ := take_eta (hqd.trans hw)
    subst hqs
    rw [if_pos hw] at ho2
    generalize numsP L.tail = nm at NM ho2
    clear hq hqd hcell c1 hw ho hL hs hl hc hd
    generalize L.length = ln at *
    clear h0 hnN
    cases nm with
    | none =>
      have hf := Lib.hid (NO.out ho2)
      clear NO ho2
      go_enter Tryd.func26, Tryd.ntmps26
      go_wp2_with fail
      refine NM.out.mono ?_
      rintro e w1 hnm
      obtain ⟨rfl, hb1⟩ := hnm
      have d1 := CL.out w1 hb1
      have S1 := S.below hb1 neRI
      have d2 : w1.cell? ⟨g, 1, none⟩ = some (.slice ia A.init.length ic) := S1.box.cell 1
      have df2 := S1.box.free 1
      have t1 := Tame.of_below (T := TRd) (base := base) hb1
      have bx := S1.box.set 1 (.slice none 0 0)
      have kx : Keeps w1 (w1.setCell ⟨g, 1, none⟩ (.slice none 0 0)) (fun j => j = g) := Keeps.set _ _ _ _ rfl
      have d3 : (w1.setCell ⟨g, 1, none⟩ (.slice none 0 0)).cell? ⟨b, off, none⟩ = some (.string ⟨#[105, 110, 105, 116]⟩) := (World.cell?_setCell_other _ _ _ _ (fun e => by injection e with e _; exact hbg.out e.symm)).trans d1
      have hg := Lib.hid (hf.out (w1.setCell ⟨g, 1, none⟩ (.slice none 0 0)) (t1.trans (Tame.box kx S1.lo S1.box)))
      clear hf
      have ea2 := ea.out
      subst ea2
      clear ea RC kx bx t1 S1 hb1 CL NM S d1
      go_wp2
      go_ret
      exact hg.out
    | some xs =>
      have ho3 : o = some { A with init := xs } := ho2
      subst ho3
      clear NO ho2
      go_enter Tryd.func26, Tryd.ntmps26
      go_wp2_with fail
      refine NM.out.mono ?_
      rintro e w1 hnm
      obtain ⟨oa, oc, rfl, own1, hb1⟩ := hnm
      have d1 := CL.out w1 hb1
      have S1 := S.below hb1 neRI
      have d2 : w1.cell? ⟨g, 1, none⟩ = some (.slice ia A.init.length ic) := S1.box.cell 1
      have df2 := S1.box.free 1
      have t1 := Tame.of_below (T := TRd) (base := base) hb1
      have bx := S1.box.set 1 (.slice oa xs.length oc)
      have kx : Keeps w1 (w1.setCell ⟨g, 1, none⟩ (.slice oa xs.length oc)) (fun j => j = g) := Keeps.set _ _ _ _ rfl
      have d3 : (w1.setCell ⟨g, 1, none⟩ (.slice oa xs.length oc)).cell? ⟨b, off, none⟩ = some (.string ⟨#[105, 110, 105, 116]⟩) := (World.cell?_setCell_other _ _ _ _ (fun e => by injection e with e _; exact hbg.out e.symm)).trans d1
      have hg0 := S1.sets (B := { A with init := xs }) (ja := oa) (jc := oc) neRI neRA rfl kx bx (OwnN.tame (b2 := base) (OwnR.lowB own1 hbw) (Tame.box kx S1.lo S1.box) neRI)
      have hg : Hid (LineV w base g (some { A with init := xs }) (.returned (.bool true)) (w1.setCell ⟨g, 1, none⟩ (.slice oa xs.length oc))) := ⟨⟨rfl, _, _, _, _, _, hg0.1⟩, t1.trans hg0.2⟩
      clear hg0 own1
      have ea2 := ea.out
      subst ea2
      clear ea RC kx bx t1 S1 hb1 CL NM S d1
      go_wp2
      go_ret
      exact hg.out
  · have hqs : ¬ q = ⟨#[105, 110, 105, 116]⟩ := fun e => hw (by rw [← hqd, e])
    have hqB := str_no hqs
    have hqB2 : (q.toList == [105, 110, 105, 116]) = false := by
      rw [beq_eq_false_iff_ne]
      intro e
      rw [ByteArray.toList_eq] at e
      exact hw (by rw [← hqd, e])
    rw [if_neg hw] at ho2
    have hf := Lib.hid (NO.out ho2)
    clear NO hq hqd hcell c1 hw ho hL hs hl hc hqs ho2 hd
    generalize L.length = ln at *
    clear h0 hnN
    go_enter Tryd.func26, Tryd.ntmps26
    go_wp2_with fail
    refine NM.out.mono ?_
    rintro e w1 hnm
    obtain ⟨oa, on, oc, bb, rfl, hb1⟩ := hnm.any
    clear hnm
    have d1 := CL.out w1 hb1
    have S1 := S.below hb1 neRI
    have d2 : w1.cell? ⟨g, 1, none⟩ = some (.slice ia A.init.length ic) := S1.box.cell 1
    have df2 := S1.box.free 1
    have t1 := Tame.of_below (T := TRd) (base := base) hb1
    have bx := S1.box.set 1 (.slice oa on oc)
    have kx : Keeps w1 (w1.setCell ⟨g, 1, none⟩ (.slice oa on oc)) (fun j => j = g) := Keeps.set _ _ _ _ rfl
    have d3 : (w1.setCell ⟨g, 1, none⟩ (.slice oa on oc)).cell? ⟨b, off, none⟩ = some (.string q) := (World.cell?_setCell_other _ _ _ _ (fun e => by injection e with e _; exact hbg.out e.symm)).trans d1
    have hg := Lib.hid (hf.out (w1.setCell ⟨g, 1, none⟩ (.slice oa on oc)) (t1.trans (Tame.box kx S1.lo S1.box)))
    clear hf
    have ea2 := ea.out
    subst ea2
    clear ea RC kx bx t1 S1 hb1 CL NM S d1
    go_wp2
    go_ret
    exact hg.out
end Go.Proofs.YtjacphcnanopjaaDoor
