/- The document's Reach. Conditions: the bounds of a graph. -/
import Derived.Test.YtnllgigolfakpaaGrW1
namespace Go.Proofs.Ytnllgigolfakpaa
open Go.RowKit

/-- while nodes are reached -/
structure RcSt (W wr : World) (X g B : Nat) (gc : List Value) (N : Nat) (op : List Nat) (ao : Option Addr) (co : Nat) : Prop where
  low : Below W.heap.size W wr
  box : RowAt wr X TGr gc
  row : RowAt wr g TyB ((marks N op).map .bool)
  own : OwnN .i64 wr B 3 ao op.length co (ints op)
  h1 : W.heap.size ≤ X
  h2 : X < g
  h3 : g < B
  h4 : B ≤ wr.heap.size
section
variable {W wr w' w3 : World} {X g B : Nat} {gc : List Value} {N : Nat} {op : List Nat} {ao : Option Addr} {co : Nat}
theorem RcSt.below (h : RcSt W wr X g B gc N op ao co) (hb : Below wr.heap.size wr w') : RcSt W w' X g B gc N op ao co :=
  ⟨btrans h.low hb, h.box.below hb, h.row.below hb, h.own.keeps (S := fun _ => False) (Keeps.of_below hb) (fun _ _ h => h), h.h1, h.h2, h.h3, Nat.le_trans h.h4 hb.size⟩
theorem RcSt.out (h : RcSt W wr X g B gc N op ao co) {v : Nat} (hv : v < N) : wr.cell? ⟨g, v, none⟩ = some (.bool (decide (v ∈ op))) := by
  rw [h.row.cell]
  simp [marks_at hv]
theorem RcSt.put (h : RcSt W wr X g B gc N op ao co) {v : Nat} (hv : v < N) (o : Obj) {a' : Option Addr} {c' : Nat} (ho : OwnN .i64 w3 B 3 a' (op.length + 1) c' (ints op ++ [(v : Int)])) (hg : ((wr.setCell ⟨g, v, none⟩ (.bool true)).alloc o).grownBy w3 (OB ao op.length co)) :
    RcSt W w3 X g B gc N (op ++ [v]) a' c' := by
  have hks : Keeps wr (wr.setCell ⟨g, v, none⟩ (.bool true)) (fun j => j = g) := Keeps.set wr g v _ rfl
  have hr := h.row.set v (.bool true)
  have hk : Keeps (wr.setCell ⟨g, v, none⟩ (.bool true)) w3 (fun j => B ≤ j) := (Keeps.alloc _ o _).trans (Keeps.of_grown (S := fun j => B ≤ j) hg (fun j e => h.own.block j e)) (fun _ _ h => h)
  have h2 := h.h2
  have h3 := h.h3
  have h1 := h.h1
  have hz := hk.size
  have hz2 := hks.size
  have h4 := h.h4
  refine ⟨hk.below (hks.below h.low (fun j e => by omega)) (fun j hj => by omega), (h.box.keeps hks (by omega)).keeps hk (by omega), ?_, ?_, h1, h2, h3, by omega⟩
  · have e : ((marks N op).map Value.bool).set v (.bool true) = (marks N (op ++ [v])).map .bool := by rw [← List.map_set, marks_set hv]
    rw [e] at hr
    exact hr.keeps hk (by omega)
  · have e : (op ++ [v]).length = op.length + 1 := by simp
    rw [e]
    unfold ints
    rw [List.map_append]
    exact ho
end
/-- all that is behind the first m is there -/
def Pre (es : List (List Nat)) (op : List Nat) (m : Nat) : Prop := ∀ x ∈ op.take m, ∀ v ∈ es.getD x [], v ∈ op
theorem Pre.ext {es : List (List Nat)} {op r : List Nat} {m : Nat} (h : Pre es op m) (hm : m ≤ op.length) : Pre es (op ++ r) m := by
  intro x hx v hv
  rw [List.take_append_of_le_length hm] at hx
  exact List.mem_append_left _ (h x hx v hv)
theorem Pre.step {es : List (List Nat)} {op : List Nat} {m : Nat} (h : Pre es op m) (hm : m < op.length) (hs : ∀ v ∈ es.getD op[m] [], v ∈ op) : Pre es op (m + 1) := by
  intro x hx v hv
  rw [List.take_add_one, List.getElem?_eq_getElem hm, Option.toList_some, List.mem_append] at hx
  rcases hx with h1 | h1
  · exact h x h1 v hv
  · simp at h1; subst h1; exact hs v hv
/-- a graph's bounds -/
structure GrOk (K : Nat) (es : List (List Nat)) : Prop where
  len : es.length ≤ 1000000
  row : ∀ l ∈ es, l.length ≤ K
  tgt : ∀ l ∈ es, ∀ v ∈ l, v < es.length
theorem GrOk.get {K : Nat} {es : List (List Nat)} (h : GrOk K es) {i : Nat} (hi : i < es.length) : es.getD i [] = es[i] ∧ es[i].length ≤ K ∧ ∀ v ∈ es[i], v < es.length := by
  refine ⟨by rw [List.getD_eq_getElem?_getD, List.getElem?_eq_getElem hi]; rfl, h.row _ (List.getElem_mem hi), h.tgt _ (List.getElem_mem hi)⟩

set_option maxRecDepth 10000 in
set_option maxHeartbeats 4000000 in
theorem reach_any (W : World) (i1 : Option Addr) (m1 c1 : Nat) (ae : Option Addr) (ce : Nat) (i2 : Option Addr) (m2 c2 : Nat) (es : List (List Nat)) (hE : GrAt W ae es) {K : Nat} (hK : K ≤ 2000000000000) (ok : GrOk K es) (af : Option Addr) (cf : Nat) (src : List Nat) (hS : NumsAt .i64 W af (ints src)) (hs : ∀ u ∈ src, u < es.length) (hsl : src.length ≤ 1000000) :
    Calls Try.prog 43 #[GV i1 m1 c1 ae es.length ce i2 m2 c2, .slice af src.length cf] W (GivesMarks W es.length fun v => ∃ u ∈ src, Way0 (GE es) All u v) := by
  obtain ⟨n, hn⟩ : ∃ n, n = es.length := ⟨_, rfl⟩
  obtain ⟨ns, hns⟩ : ∃ ns, ns = src.length := ⟨_, rfl⟩
  have hlen := ok.len
  rw [← hn] at hlen hs ⊢
  rw [← hns] at hsl ⊢
  replace hn := Lib.hid hn
  replace hns := Lib.hid hns
  obtain ⟨w1, hw1⟩ : ∃ w1, w1 = W.alloc (.cells #[.slice i1 m1 c1, .slice ae n ce, .slice i2 m2 c2] TGr) := ⟨_, rfl⟩
  have hb1 : Below W.heap.size W w1 := by rw [hw1]; exact balloc (Below.refl _ _) _
  have r1 : RowAt w1 W.heap.size TGr (GC i1 m1 c1 ae n ce i2 m2 c2) := by rw [hw1]; exact RowAt.new (w := W) #[.slice i1 m1 c1, .slice ae n ce, .slice i2 m2 c2] rfl
  have x1 : w1.cell? ⟨W.heap.size, 1, none⟩ = some (.slice ae n ce) := r1.cell 1
  have hlt1 := r1.lt
  have hn2 : (n : Int) ≤ 1000000 := by omega
  have hns2 : (ns : Int) ≤ 1000000 := by omega
  have hn0 : 0 ≤ (n : Int) := by omega
  replace hb1 := Lib.hid hb1
  replace r1 := Lib.hid r1
  replace ok := Lib.hid ok
  replace hE := Lib.hid hE
  replace hS := Lib.hid hS
  replace hs := Lib.hid hs
  have hby : Hid (1 * n ≤ 281474976710656) := by show _ ≤ _; omega
  clear hlen hsl
  go_enter Try.func43, Try.ntmps43
  have x1' : (W.alloc (.cells #[.slice i1 m1 c1, .slice ae n ce, .slice i2 m2 c2] TGr)).cell? ⟨W.heap.size, 1, none⟩ = some (.slice ae n ce) := by rw [← hw1]; exact x1
  go_wp2_with (at_make; refine wp_makeRow rfl _ _ _ TyB (.bool false) 1 rfl Try.underlying32 infoBl rfl n rfl rfl hby.out (by decide) ?_)
  intro w2 hM hb2 hlt2
  have hz1 : w1.heap.size = W.heap.size + 1 := by rw [hw1]; simp
  have hb2 : Below w1.heap.size w1 w2 := by rw [hw1]; simpa using hb2
  obtain ⟨g, hg⟩ : ∃ g, g = W.heap.size + 1 := ⟨_, rfl⟩
  rw [← hg] at hM hlt2 hz1
  have st0 : Hid (RcSt W w2 W.heap.size g w2.heap.size (GC i1 m1 c1 ae n ce i2 m2 c2) n [] none 0) :=
    ⟨btrans hb1.out hb2, r1.out.below hb2, by rw [marks_nil, List.map_replicate]; exact hM, OwnN.nil _ _ _ _, Nat.le_refl _, by omega, by omega, Nat.le_refl _⟩
  rw [← hg]
  obtain ⟨B, hB⟩ : ∃ B, B = w2.heap.size := ⟨_, rfl⟩
  rw [← hB] at st0
  clear hM hb2 hlt2 hlt1 x1 x1' hw1 r1 hb1 hg hB hz1
  go_wp2
  go_loopw [6, 7] (fun lv iv wr => ∃ (k : Nat) (op : List Nat) (a : Option Addr) (c m : Nat), k ≤ ns ∧ iv = .int .i64 k ∧ lv = .slice a m c ∧ Hid (m = op.length) ∧ Hid (RcSt W wr W.heap.size g B (GC i1 m1 c1 ae n ce i2 m2 c2) n op a c) ∧ Hid (Rch es src op) ∧ Hid (∀ u ∈ src.take k, u ∈ op)) (fun _ iv _ => ns - (intOf iv).toNat)
  case atStart => exact ⟨0, [], none, 0, 0, Nat.zero_le _, rfl, rfl, rfl, st0, Rch.nil _ _, fun u hu => by simp at hu⟩
  case round =>
    obtain ⟨k, op, a, c, m, hk, rfl, rfl, hm, st, rch, hfr⟩ := hrel
    clear st0
    by_cases hkn : k < ns
    · have hkn2 : (k : Int) < (ns : Int) := by omega
      have hks : k < src.length := by have := hns.out; omega
      obtain ⟨b, off, v, hab, hbl, hc, hv⟩ := hS.out.atb st.out.low k (by rw [ints_len]; exact hks)
      rw [ints_at hks] at hv
      obtain ⟨u, hu⟩ : ∃ u, u = src[k] := ⟨_, rfl⟩
      rw [← hu] at hv
      obtain rfl := hv.out
      have hun : u < n := hs.out u (by rw [hu]; exact List.getElem_mem hks)
      have huN : (u : Int) < (n : Int) := by omega
      have hsu : Hid (∃ u' ∈ src, Way0 (GE es) All u' u) := ⟨u, by rw [hu]; exact List.getElem_mem hks, .inl rfl⟩
      have htk : Hid (src.take (k + 1) = src.take k ++ [u]) := by show _ = _; rw [List.take_add_one, List.getElem?_eq_getElem hks, Option.toList_some, ← hu]
      have x0 : wr.cell? ⟨W.heap.size, 0, none⟩ = some (.slice i1 m1 c1) := st.out.box.cell 0
      have x1 : wr.cell? ⟨W.heap.size, 1, none⟩ = some (.slice ae n ce) := st.out.box.cell 1
      have x2 : wr.cell? ⟨W.heap.size, 2, none⟩ = some (.slice i2 m2 c2) := st.out.box.cell 2
      have hou := st.out.out hun
      have hfz := st.out.row.free u
      have SB : Hid (∀ w', Below wr.heap.size wr w' → w'.cell? ⟨W.heap.size, 0, none⟩ = some (.slice i1 m1 c1) ∧ w'.cell? ⟨W.heap.size, 1, none⟩ = some (.slice ae n ce) ∧ w'.cell? ⟨W.heap.size, 2, none⟩ = some (.slice i2 m2 c2) ∧ w'.cell? ⟨b, off + k, none⟩ = some (.int .i64 (u : Int)) ∧ w'.cell? ⟨g, u, none⟩ = some (.bool (decide (u ∈ op)))) := fun w' hb => ⟨bcell hb x0, bcell hb x1, bcell hb x2, bcell hb hc, bcell hb hou⟩
      have NY := Lib.hid (fun w => node_yes i1 m1 c1 ae n ce i2 m2 c2 w u hun)
      clear hu hv hks
      subst hab
      by_cases hin : u ∈ op
      · have hd : decide (u ∈ op) = true := by simpa using hin
        have hfr2 : Hid (∀ x ∈ src.take (k + 1), x ∈ op) := fun x hx => by
          rw [htk.out, List.mem_append] at hx
          rcases hx with h1 | h1
          · exact hfr.out x h1
          · simp at h1; subst h1; exact hin
        rw [hd] at hou SB
        clear hd hin hfr
        go_wp2
        go_region_held3 (fun w' => w'.cell? ⟨W.heap.size, 0, none⟩ = some (.slice i1 m1 c1) ∧ w'.cell? ⟨W.heap.size, 1, none⟩ = some (.slice ae n ce) ∧ w'.cell? ⟨W.heap.size, 2, none⟩ = some (.slice i2 m2 c2) ∧ w'.cell? ⟨b, off + k, none⟩ = some (.int .i64 (u : Int)) ∧ w'.cell? ⟨g, u, none⟩ = some (.bool true)) (first | exact SB.out _ B3 | exact SB.out _ (Below.refl _ _) | exact SB.out _ (Below.refl _ _).drew) (first
          | (go_at_call 46; (with_reducible refine (NY.out _).mono ?_); rintro e w3 ⟨rfl, hb3⟩; have B3 : Below wr.heap.size wr w3 := ⟨hb3.os, hb3.tape, hb3.output, hb3.size, hb3.block⟩))
        have st3 := Lib.hid (st.out.below B3)
        clear x0 x1 x2 hou hfz SB st B3 hc
        go_wp2
        go_roundw
        case rel => exact ⟨k + 1, op, a, c, m, by omega, by go_num, rfl, hm, st3, rch, hfr2⟩
        case measure => simp [intOf]; omega
      · have hd : decide (u ∈ op) = false := by simpa using hin
        have rch2 := Lib.hid (rch.out.snoc hin (by rw [← hn.out]; exact hun) hsu.out)
        have hfr2 : Hid (∀ x ∈ src.take (k + 1), x ∈ op ++ [u]) := fun x hx => by
          rw [htk.out, List.mem_append] at hx
          rcases hx with h1 | h1
          · exact List.mem_append_left _ (hfr.out x h1)
          · exact List.mem_append_right _ h1
        have hopl := rch.out.len
        rw [← hn.out, ← hm.out] at hopl
        have hmI : (m : Int) ≤ 1000000 := by omega
        replace hopl := Lib.hid hopl
        rw [hd] at hou SB
        clear hd hin hfr
        go_wp2
        go_region_held3 (fun w' => w'.cell? ⟨W.heap.size, 0, none⟩ = some (.slice i1 m1 c1) ∧ w'.cell? ⟨W.heap.size, 1, none⟩ = some (.slice ae n ce) ∧ w'.cell? ⟨W.heap.size, 2, none⟩ = some (.slice i2 m2 c2) ∧ w'.cell? ⟨b, off + k, none⟩ = some (.int .i64 (u : Int)) ∧ w'.cell? ⟨g, u, none⟩ = some (.bool false)) (first | exact SB.out _ B3 | exact SB.out _ (Below.refl _ _) | exact SB.out _ (Below.refl _ _).drew) (first
          | (go_at_call 46; (with_reducible refine (NY.out _).mono ?_); rintro e w3 ⟨rfl, hb3⟩; have B3 : Below wr.heap.size wr w3 := ⟨hb3.os, hb3.tape, hb3.output, hb3.size, hb3.block⟩))
        have st3 := st.out.below B3
        have hou3 := bcell B3 hou
        have hfz3 := st3.row.free u
        have hc3 := bcell B3 hc
        have hbg : b ≠ g := by have := st.out.h1; have := st.out.h2; omega
        have hc4 : (w3.setCell ⟨g, u, none⟩ (.bool true)).cell? ⟨b, off + k, none⟩ = some (.int .i64 (u : Int)) := by
          rw [World.cell?_setCell_other _ _ _ _ (fun e => by injection e with e1 e2; exact hbg e1.symm)]
          exact hc3
        have ow4 : OwnN .i64 (w3.setCell ⟨g, u, none⟩ (.bool true)) B 3 a m c (ints op) := by
          have h5 := st3.own
          rw [← hm.out] at h5
          exact h5.keeps (Keeps.set w3 g u _ (S := fun j => j = g) rfl) (fun j hj e => by have := h5.block j hj; have := st.out.h3; omega)
        have OW := Lib.hid (ow4.alloc (.cells #[.int .i64 (u : Int)] 3))
        have NC : Hid (((w3.setCell ⟨g, u, none⟩ (.bool true)).alloc (.cells #[.int .i64 (u : Int)] 3)).cell? ⟨w3.heap.size, 0, none⟩ = some (.int .i64 (u : Int))) := World.cell?_alloc_at _ _ _ _ (by simp [World.setCell])
        have y5 : Hid ((m + 1) * 8 ≤ 140737488355328) := by show _ ≤ _; have := hopl.out; omega
        have x5 : Hid (B ≤ ((w3.setCell ⟨g, u, none⟩ (.bool true)).alloc (.cells #[.int .i64 (u : Int)] 3)).heap.size) := by
          show _ ≤ _
          have h5 := st3.h4
          have h6 : (w3.setCell ⟨g, u, none⟩ (.bool true)).heap.size = w3.heap.size := by simp [World.setCell]
          have h7 := (Keeps.alloc (w3.setCell ⟨g, u, none⟩ (.bool true)) (.cells #[.int .i64 (u : Int)] 3) (fun _ => False)).size
          omega
        replace st3 := Lib.hid st3
        clear x0 x1 x2 hou hfz SB st B3 hc hb3 NY ow4
        go_wp2_with (at_builtin; refine wp_app1 rfl _ _ 22 3 .i64 8 rfl Try.underlying22 infoI B a m c _ rfl OW.out _ 1 (u : Int) rfl NC.out y5.out (by decide) x5.out ?_)
        intro a5 c5 w5 ho5 hg5
        have st5 := Lib.hid (st3.out.put hun _ (by rw [← hm.out]; exact ho5) (by rw [← hm.out]; exact hg5))
        have hm5 : Hid (m + 1 = (op ++ [u]).length) := by show _ = _; rw [List.length_append, ← hm.out]; rfl
        clear OW NC y5 x5 ho5 hg5 st3 hou3 hfz3 hc3 hc4 hm rch
        go_wp2
        go_roundw
        case rel => exact ⟨k + 1, _, a5, c5, m + 1, by omega, by go_num, rfl, hm5, st5, rch2, hfr2⟩
        case measure => simp [intOf]; omega
    · obtain rfl : k = ns := by omega
      have hfr2 : Hid (∀ u ∈ src, u ∈ op) := fun u hu => hfr.out u (by rw [hns.out, List.take_length]; exact hu)
      have hpre0 : Hid (Pre es op 0) := fun x hx => by simp at hx
      clear hfr hkn hS hs hns2 hk
      go_wp2
      go_loopw [6, 8] (fun lv iv wr => ∃ (k : Nat) (op : List Nat) (a : Option Addr) (c m : Nat), k ≤ m ∧ iv = .int .i64 k ∧ lv = .slice a m c ∧ Hid (m = op.length) ∧ m ≤ n ∧ Hid (RcSt W wr W.heap.size g B (GC i1 m1 c1 ae n ce i2 m2 c2) n op a c) ∧ Hid (Rch es src op) ∧ Hid (∀ u ∈ src, u ∈ op) ∧ Hid (Pre es op k)) (fun _ iv _ => n - (intOf iv).toNat)
      case atStart => exact ⟨0, op, a, c, m, Nat.zero_le _, rfl, rfl, hm, by have := rch.out.len; have := hm.out; have := hn.out; omega, st, rch, hfr2, hpre0⟩
      case round =>
        obtain ⟨k, op, a, c, m, hk, rfl, rfl, hm, hmn, st, rch, hfr, hpre⟩ := hrel
        clear hfr2 hpre0
        by_cases hkm : k < m
        · have hkm2 : (k : Int) < (m : Int) := by omega
          have hmI : (m : Int) ≤ 1000000 := by omega
          have hko : k < op.length := by have := hm.out; omega
          obtain ⟨x, hx⟩ : ∃ x, x = op[k] := ⟨_, rfl⟩
          have hxn : x < es.length := rch.out.lt x (by rw [hx]; exact List.getElem_mem hko)
          have hxN : (x : Int) < (n : Int) := by have := hn.out; omega
          obtain ⟨bo, oo, v, hao, _, cv, hv⟩ := (NumsAt.of_owns st.out.own).atb (Below.refl _ _) k (by rw [ints_len]; exact hko)
          rw [ints_at hko, ← hx] at hv
          obtain rfl := hv.out
          obtain ⟨bg, og, ar, cr, hag, _, cg, hrow⟩ := hE.out.at x hxn
          obtain ⟨e1, e2, e3⟩ := ok.out.get hxn
          rw [← e1] at cg hrow e2 e3
          obtain ⟨l, hl⟩ : ∃ l, l = es.getD x [] := ⟨_, rfl⟩
          rw [← hl] at cg hrow e2 e3
          have hxo : x ∈ op := by rw [hx]; exact List.getElem_mem hko
          have hlI : (l.length : Int) ≤ 2000000000000 := by omega
          have x1 : wr.cell? ⟨W.heap.size, 1, none⟩ = some (.slice ae n ce) := st.out.box.cell 1
          replace hx := Lib.hid hx
          replace hl := Lib.hid hl
          replace e3 := Lib.hid e3
          replace hrow := Lib.hid hrow
          replace hxo := Lib.hid hxo
          have cg' := bcell st.out.low cg
          subst hao
          subst hag
          clear e1 hv e2
          go_wp2
          go_quiet (fail)
          generalize hwd : wr.drewN _ = wd
          have st2 : Hid (RcSt W wd W.heap.size g B (GC i1 m1 c1 (some ⟨bg, og, none⟩) n ce i2 m2 c2) n op (some ⟨bo, oo, none⟩) c) := by
            show RcSt _ _ _ _ _ _ _ _ _ _
            rw [← hwd]
            exact st.out.below (Quiet.one _ _ |>.below _)
          clear hwd st cg cg' cv x1
          go_wp2
          go_loopw [6, 10] (fun lv jv wr => ∃ (j : Nat) (r : List Nat) (a : Option Addr) (c m' : Nat), j ≤ l.length ∧ jv = .int .i64 j ∧ lv = .slice a m' c ∧ Hid (m' = (op ++ r).length) ∧ m' ≤ n ∧ Hid (RcSt W wr W.heap.size g B (GC i1 m1 c1 (some ⟨bg, og, none⟩) n ce i2 m2 c2) n (op ++ r) a c) ∧ Hid (Rch es src (op ++ r)) ∧ Hid (∀ v ∈ l.take j, v ∈ op ++ r)) (fun _ jv _ => l.length - (intOf jv).toNat)
          case atStart => exact ⟨0, [], some ⟨bo, oo, none⟩, c, m, Nat.zero_le _, rfl, rfl, by rw [List.append_nil]; exact hm, hmn, by rw [List.append_nil]; exact st2, by rw [List.append_nil]; exact rch, fun v hv => by simp at hv⟩
          case round =>
            obtain ⟨j, r, a, c', m', hj, rfl, rfl, hm', hmn', st, rch', hfl⟩ := hrel
            clear st2 rch
            have hfr' : Hid (∀ u ∈ src, u ∈ op ++ r) := fun u hu => List.mem_append_left _ (hfr.out u hu)
            by_cases hjl : j < l.length
            · have hjl2 : (j : Int) < (l.length : Int) := by omega
              obtain ⟨be, oe, har, hbl, ce0, _⟩ := hrow.out.at j hjl
              obtain ⟨u, hu⟩ : ∃ u, u = l[j] := ⟨_, rfl⟩
              rw [← hu] at ce0
              have hul : u ∈ l := by rw [hu]; exact List.getElem_mem hjl
              have hun : u < n := by have := e3.out u hul; have := hn.out; omega
              have huN : (u : Int) < (n : Int) := by omega
              have htk : Hid (l.take (j + 1) = l.take j ++ [u]) := by show _ = _; rw [List.take_add_one, List.getElem?_eq_getElem hjl, Option.toList_some, ← hu]
              have hc := bcell st.out.low ce0
              have x0 : wr.cell? ⟨W.heap.size, 0, none⟩ = some (.slice i1 m1 c1) := st.out.box.cell 0
              have x1 : wr.cell? ⟨W.heap.size, 1, none⟩ = some (.slice (some ⟨bg, og, none⟩) n ce) := st.out.box.cell 1
              have x2 : wr.cell? ⟨W.heap.size, 2, none⟩ = some (.slice i2 m2 c2) := st.out.box.cell 2
              have hou := st.out.out hun
              have hfz := st.out.row.free u
              have SB : Hid (∀ w', Below wr.heap.size wr w' → w'.cell? ⟨W.heap.size, 0, none⟩ = some (.slice i1 m1 c1) ∧ w'.cell? ⟨W.heap.size, 1, none⟩ = some (.slice (some ⟨bg, og, none⟩) n ce) ∧ w'.cell? ⟨W.heap.size, 2, none⟩ = some (.slice i2 m2 c2) ∧ w'.cell? ⟨be, oe + j * 2, none⟩ = some (.int .i64 (u : Int)) ∧ w'.cell? ⟨g, u, none⟩ = some (.bool (decide (u ∈ op ++ r)))) := fun w' hb => ⟨bcell hb x0, bcell hb x1, bcell hb x2, bcell hb hc, bcell hb hou⟩
              have NY := Lib.hid (fun w => node_yes i1 m1 c1 (some ⟨bg, og, none⟩) n ce i2 m2 c2 w u hun)
              have hst : Hid (u ∉ op ++ r → Rch es src ((op ++ r) ++ [u])) := fun hni => rch'.out.step (List.mem_append_left _ hxo.out) (by rw [← hl.out]; exact hul) hni (by rw [← hn.out]; exact hun)
              replace hul := Lib.hid hul
              clear hu ce0
              subst har
              by_cases hin : u ∈ op ++ r
              · have hd : decide (u ∈ op ++ r) = true := by simpa using hin
                have hfl2 : Hid (∀ x ∈ l.take (j + 1), x ∈ op ++ r) := fun x hx => by
                  rw [htk.out, List.mem_append] at hx
                  rcases hx with h1 | h1
                  · exact hfl.out x h1
                  · simp at h1; subst h1; exact hin
                rw [hd] at hou SB
                clear hd hin hfl hst
                go_wp2
                go_region_held3 (fun w' => w'.cell? ⟨W.heap.size, 0, none⟩ = some (.slice i1 m1 c1) ∧ w'.cell? ⟨W.heap.size, 1, none⟩ = some (.slice (some ⟨bg, og, none⟩) n ce) ∧ w'.cell? ⟨W.heap.size, 2, none⟩ = some (.slice i2 m2 c2) ∧ w'.cell? ⟨be, oe + j * 2, none⟩ = some (.int .i64 (u : Int)) ∧ w'.cell? ⟨g, u, none⟩ = some (.bool true)) (first | exact SB.out _ B3 | exact SB.out _ (Below.refl _ _) | exact SB.out _ (Below.refl _ _).drew) (first
                  | (go_at_call 46; (with_reducible refine (NY.out _).mono ?_); rintro e w3 ⟨rfl, hb3⟩; have B3 : Below wr.heap.size wr w3 := ⟨hb3.os, hb3.tape, hb3.output, hb3.size, hb3.block⟩))
                have st3 := Lib.hid (st.out.below B3)
                clear x0 x1 x2 hou hfz SB st B3 hc
                go_wp2
                go_roundw
                case rel => exact ⟨j + 1, r, a, c', m', by omega, by go_num, rfl, hm', hmn', st3, rch', hfl2⟩
                case measure => simp [intOf]; omega
              · have hd : decide (u ∈ op ++ r) = false := by simpa using hin
                have rch2 := Lib.hid (hst.out hin)
                have hfl2 : Hid (∀ x ∈ l.take (j + 1), x ∈ (op ++ r) ++ [u]) := fun x hx => by
                  rw [htk.out, List.mem_append] at hx
                  rcases hx with h1 | h1
                  · exact List.mem_append_left _ (hfl.out x h1)
                  · exact List.mem_append_right _ h1
                have hopl := rch2.out.len
                rw [← hn.out, List.length_append, ← hm'.out] at hopl
                simp only [List.length_cons, List.length_nil] at hopl
                have hmI' : (m' : Int) ≤ 1000000 := by omega
                replace hopl := Lib.hid hopl
                rw [hd] at hou SB
                clear hd hin hfl hst
                go_wp2
                go_region_held3 (fun w' => w'.cell? ⟨W.heap.size, 0, none⟩ = some (.slice i1 m1 c1) ∧ w'.cell? ⟨W.heap.size, 1, none⟩ = some (.slice (some ⟨bg, og, none⟩) n ce) ∧ w'.cell? ⟨W.heap.size, 2, none⟩ = some (.slice i2 m2 c2) ∧ w'.cell? ⟨be, oe + j * 2, none⟩ = some (.int .i64 (u : Int)) ∧ w'.cell? ⟨g, u, none⟩ = some (.bool false)) (first | exact SB.out _ B3 | exact SB.out _ (Below.refl _ _) | exact SB.out _ (Below.refl _ _).drew) (first
                  | (go_at_call 46; (with_reducible refine (NY.out _).mono ?_); rintro e w3 ⟨rfl, hb3⟩; have B3 : Below wr.heap.size wr w3 := ⟨hb3.os, hb3.tape, hb3.output, hb3.size, hb3.block⟩))
                have st3 := st.out.below B3
                have hou3 := bcell B3 hou
                have hfz3 := st3.row.free u
                have hc3 := bcell B3 hc
                have hbg : be ≠ g := by have := st.out.h1; have := st.out.h2; omega
                have hc4 : (w3.setCell ⟨g, u, none⟩ (.bool true)).cell? ⟨be, oe + j * 2, none⟩ = some (.int .i64 (u : Int)) := by
                  rw [World.cell?_setCell_other _ _ _ _ (fun e => by injection e with e1 e2; exact hbg e1.symm)]
                  exact hc3
                have ow4 : OwnN .i64 (w3.setCell ⟨g, u, none⟩ (.bool true)) B 3 a m' c' (ints (op ++ r)) := by
                  have h5 := st3.own
                  rw [← hm'.out] at h5
                  exact h5.keeps (Keeps.set w3 g u _ (S := fun j => j = g) rfl) (fun j hj e => by have := h5.block j hj; have := st.out.h3; omega)
                have OW := Lib.hid (ow4.alloc (.cells #[.int .i64 (u : Int)] 3))
                have NC : Hid (((w3.setCell ⟨g, u, none⟩ (.bool true)).alloc (.cells #[.int .i64 (u : Int)] 3)).cell? ⟨w3.heap.size, 0, none⟩ = some (.int .i64 (u : Int))) := World.cell?_alloc_at _ _ _ _ (by simp [World.setCell])
                have y5 : Hid ((m' + 1) * 8 ≤ 140737488355328) := by show _ ≤ _; have := hopl.out; omega
                have x5 : Hid (B ≤ ((w3.setCell ⟨g, u, none⟩ (.bool true)).alloc (.cells #[.int .i64 (u : Int)] 3)).heap.size) := by
                  show _ ≤ _
                  have h5 := st3.h4
                  have h6 : (w3.setCell ⟨g, u, none⟩ (.bool true)).heap.size = w3.heap.size := by simp [World.setCell]
                  have h7 := (Keeps.alloc (w3.setCell ⟨g, u, none⟩ (.bool true)) (.cells #[.int .i64 (u : Int)] 3) (fun _ => False)).size
                  omega
                replace st3 := Lib.hid st3
                clear x0 x1 x2 hou hfz SB st B3 hc hb3 NY ow4
                go_wp2_with (at_builtin; refine wp_app1 rfl _ _ 22 3 .i64 8 rfl Try.underlying22 infoI B a m' c' _ rfl OW.out _ 1 (u : Int) rfl NC.out y5.out (by decide) x5.out ?_)
                intro a5 c5 w5 ho5 hg5
                have st5 := Lib.hid (st3.out.put hun _ (by rw [← hm'.out]; simpa [ints] using ho5) (by rw [← hm'.out]; exact hg5))
                have hm5 : Hid (m' + 1 = (op ++ (r ++ [u])).length) := by show _ = _; rw [← List.append_assoc, List.length_append, ← hm'.out]; rfl
                have hmn5 : m' + 1 ≤ n := hopl.out
                rw [List.append_assoc] at rch2 st5
                have hfl3 : Hid (∀ x ∈ l.take (j + 1), x ∈ op ++ (r ++ [u])) := by rw [← List.append_assoc]; exact hfl2
                clear OW NC y5 x5 ho5 hg5 st3 hou3 hfz3 hc3 hc4 hm' hfl2
                go_wp2
                go_roundw
                case rel => exact ⟨j + 1, r ++ [u], a5, c5, m' + 1, by omega, by go_num, rfl, hm5, hmn5, st5, rch2, hfl3⟩
                case measure => simp [intOf]; omega
            · obtain rfl : j = l.length := by omega
              have hpre2 : Hid (Pre es (op ++ r) (k + 1)) := by
                have h1 := (hpre.out.ext (r := r) (by have := hm.out; omega))
                refine Pre.step h1 (by rw [List.length_append]; have := hm.out; omega) (fun v hv => ?_)
                have e : (op ++ r)[k]'(by rw [List.length_append]; have := hm.out; omega) = x := by rw [List.getElem_append_left (by have := hm.out; omega)]; exact hx.out.symm
                rw [e, ← hl.out] at hv
                exact hfl.out v (by rw [List.take_length]; exact hv)
              have hkm' : k + 1 ≤ m' := by
                have h1 := hm'.out
                rw [List.length_append] at h1
                have := hm.out
                omega
              clear hfl hpre hfr hx hl e3 hrow hxo hm hmn
              go_wp2
              go_roundw
              case rel => exact ⟨k + 1, op ++ r, a, c', m', hkm', by go_num, rfl, hm', hmn', st, rch', hfr', hpre2⟩
              case measure => simp [intOf]; omega
        · obtain rfl : k = m := by omega
          have hcl := Lib.hid (rch.out.all hfr.out (fun x hx => hpre.out x (by rw [hm.out, List.take_length]; exact hx)))
          have hrow : Hid (RowAt wr g TyB ((marks n op).map .bool)) := st.out.row
          have hlo := Lib.hid st.out.low
          have hgW : W.heap.size ≤ g := Nat.le_of_lt st.out.h2
          clear hpre hfr rch st hm hkm
          go_wp2
          go_ret
          exact ⟨g, marks n op, rfl, hrow.out, marks_len _ _, fun v hv => by rw [List.getD_eq_getElem?_getD, marks_at hv]; simpa using hcl.out v, hlo.out, hgW⟩
end Go.Proofs.Ytnllgigolfakpaa
