/- The document's 'goes': from a node within what is left to one of each set. Conditions: the bounds of a graph. -/
import Derived.Test.YtfcpfcgcfaacnaaPrSomeP
import Derived.Test.YtfcpfcgcfaacnaaPrIQueue
import Derived.Deep.CutBlock
import Derived.Deep.DeepCutAuto
namespace Go.Proofs.Ytfcpfcgcfaacnaa
open Go.RowKit

abbrev TyBo : Nat := 4
theorem infoBo : (Try.prog.info? TyBo).map (fun i => (i.zero, i.size, i.bytes)) = some (some (.bool false), 1, 1) := by kernel_rfl
abbrev ints (l : List Nat) : List Int := l.map fun u : Nat => (u : Int)
theorem ints_len (l : List Nat) : (ints l).length = l.length := by simp [ints]
theorem TruthsAt.of_row {w : World} {g T : Nat} {xs : List Bool} (h : RowAt w g T (xs.map .bool)) : TruthsAt w (some ⟨g, 0, none⟩) xs := by
  intro h0
  refine ⟨g, 0, rfl, fun i hi => ?_⟩
  rw [Nat.zero_add, h.cell]
  simp [List.getElem?_eq_getElem hi]
/-- while a search goes on -/
structure GoSt (W w : World) (X g B : Nat) (gc : List Value) (seen : List Bool) (todo : List Nat) (a : Option Addr) (c : Nat) : Prop where
  low : Below W.heap.size W w
  box : RowAt w X TG gc
  row : RowAt w g TyBo (seen.map .bool)
  own : OwnIQ w B a todo.length c (ints todo)
  h1 : W.heap.size ≤ X
  h2 : X < g
  h3 : g < B
  h4 : B ≤ w.heap.size
section
variable {W w w' w3 : World} {X g B : Nat} {gc : List Value} {seen : List Bool} {todo : List Nat} {a : Option Addr} {c : Nat}
theorem GoSt.below (h : GoSt W w X g B gc seen todo a c) (hb : Below w.heap.size w w') : GoSt W w' X g B gc seen todo a c :=
  ⟨btrans h.low hb, h.box.below hb, h.row.below hb, h.own.below hb, h.h1, h.h2, h.h3, Nat.le_trans h.h4 hb.size⟩
theorem GoSt.tail {n : Nat} (h : GoSt W w X g B gc seen (n :: todo) a c) : GoSt W w X g B gc seen todo (cutA a c 1 1) (c - 1) := by
  have h1 := h.own
  have h2 : OwnIQ w B (cutA a c 1 1) ((todo.length + 1) - 1) (c - 1) (ints todo) := OwnIQ.tail (x := (n : Int)) h1
  exact ⟨h.low, h.box, h.row, h2, h.h1, h.h2, h.h3, h.h4⟩
theorem GoSt.cell (h : GoSt W w X g B gc seen todo a c) {v : Nat} (hv : v < seen.length) : w.cell? ⟨g, v, none⟩ = some (.bool (seen.getD v false)) := by
  rw [h.row.cell]
  simp [List.getD, hv]
theorem GoSt.put (h : GoSt W w X g B gc seen todo a c) {v : Nat} (o : Obj) {a' : Option Addr} {c' : Nat} (ho : OwnIQ w3 B a' (todo.length + 1) c' (ints todo ++ [(v : Int)])) (hk : Keeps ((w.setCell ⟨g, v, none⟩ (.bool true)).alloc o) w3 (fun j => 0 < c ∧ (Value.slice a todo.length c).ownBlock = some j)) :
    GoSt W w3 X g B gc (seen.set v true) (todo ++ [v]) a' c' := by
  have hks : Keeps w (w.setCell ⟨g, v, none⟩ (.bool true)) (fun j => j = g) := Keeps.set w g v _ rfl
  have hr := h.row.set v (.bool true)
  have hk2 : Keeps (w.setCell ⟨g, v, none⟩ (.bool true)) w3 (fun j => B ≤ j) := (Keeps.alloc _ o _).trans hk (fun j _ e => (h.own.blk e.1 e.2).1)
  have h2 := h.h2
  have h3 := h.h3
  have h1 := h.h1
  have hz := hk2.size
  have hz2 := hks.size
  have h4 := h.h4
  refine ⟨hk2.below (hks.below h.low (fun j e => by omega)) (fun j hj => by omega), (h.box.keeps hks (by omega)).keeps hk2 (by omega), ?_, ?_, h1, h2, h3, by omega⟩
  · have e : (seen.map Value.bool).set v (.bool true) = (seen.set v true).map .bool := by rw [List.map_set]
    rw [e] at hr
    exact hr.keeps hk2 (by omega)
  · have e : (todo ++ [v]).length = todo.length + 1 := by simp
    rw [e]
    unfold ints at ho ⊢
    rw [List.map_append]
    exact ho
end
/-- one that is seen and of a set, among the first m -/
def MetN (seen F : List Bool) (m : Nat) : Prop := ∃ v, v < m ∧ seen.getD v false = true ∧ F.getD v false = true
theorem MetN.zero (seen F : List Bool) : ¬ MetN seen F 0 := fun ⟨v, h, _⟩ => by omega
theorem MetN.succ {seen F : List Bool} {m : Nat} : MetN seen F (m + 1) ↔ MetN seen F m ∨ (seen.getD m false = true ∧ F.getD m false = true) := by
  constructor
  · rintro ⟨v, h1, h2, h3⟩
    by_cases e : v = m
    · subst e; exact .inr ⟨h2, h3⟩
    · exact .inl ⟨v, by omega, h2, h3⟩
  · rintro (⟨v, h1, h2⟩ | ⟨h1, h2⟩)
    · exact ⟨v, by omega, h2⟩
    · exact ⟨m, by omega, h1, h2⟩
/-- any is seen, and of each of the first sets one -/
def AnyN (seen : List Bool) (Fs : List (List Bool)) (i : Nat) : Prop := (∃ v, seen.getD v false = true) ∧ ∀ F ∈ Fs.take i, MetN seen F seen.length
theorem AnyN.succ {seen : List Bool} {Fs : List (List Bool)} {i : Nat} {F : List Bool} (h : Fs[i]? = some F) : AnyN seen Fs (i + 1) ↔ AnyN seen Fs i ∧ MetN seen F seen.length := by
  unfold AnyN
  rw [List.take_add_one, h]
  simp only [Option.toList_some, List.mem_append, List.mem_singleton]
  constructor
  · rintro ⟨h1, h2⟩
    exact ⟨⟨h1, fun G hG => h2 G (.inl hG)⟩, h2 F (.inr rfl)⟩
  · rintro ⟨⟨h1, h2⟩, h3⟩
    refine ⟨h1, fun G hG => ?_⟩
    rcases hG with hG | rfl
    · exact h2 G hG
    · exact h3
theorem getD_lt {seen : List Bool} {v : Nat} (h : seen.getD v false = true) : v < seen.length := by
  by_cases hv : v < seen.length
  · exact hv
  · rw [List.getD_eq_getElem?_getD, List.getElem?_eq_none (by omega)] at h
    cases h
theorem AnyN.goes {es : List (List PR)} {Fs : List (List Bool)} {left : Nat → Bool} {s : Nat} {seen : List Bool} (h : ∀ v, seen.getD v false = true ↔ RLeft es left s v) : AnyN seen Fs Fs.length ↔ GoesP es Fs left s := by
  unfold AnyN GoesP
  rw [List.take_length]
  constructor
  · rintro ⟨⟨v, hv⟩, h2⟩
    refine ⟨⟨v, (h v).1 hv⟩, fun F hF => ?_⟩
    obtain ⟨u, _, h3, h4⟩ := h2 F hF
    exact ⟨u, (h u).1 h3, h4⟩
  · rintro ⟨⟨v, hv⟩, h2⟩
    refine ⟨⟨v, (h v).2 hv⟩, fun F hF => ?_⟩
    obtain ⟨u, h3, h4⟩ := h2 F hF
    have h5 := (h u).2 h3
    exact ⟨u, getD_lt h5, h5, h4⟩
theorem any_set {seen : List Bool} {v : Nat} (hv : v < seen.length) : ∃ u, (seen.set v true).getD u false = true := ⟨v, seen_new hv⟩

/-- a bool that tells whether P -/
def TellsB (W : World) (P : Prop) (e : Ending) (w' : World) : Prop := ∃ b, e = .returned (.bool b) ∧ (b = true ↔ P) ∧ Below W.heap.size W w'
set_option maxRecDepth 10000 in
set_option maxHeartbeats 8000000 in
theorem goes_any (W : World) (ai : Option Addr) (ni ci : Nat) (ae : Option Addr) (ce : Nat) (al : Option Addr) (nl cl : Nat) (es : List (List PR)) (hE : EdgesAt W ae es) (hlen : es.length ≤ 1000000) (hrow : ∀ r ∈ es, r.length ≤ 1000000)
    (as_ : Option Addr) (cs : Nat) (Fs : List (List Bool)) (hS : SetsAt W as_ Fs) (hF : Fs.length ≤ 1000000) (hFs : ∀ F ∈ Fs, F.length ≤ 1000000)
    (alf : Option Addr) (clf : Nat) (lf : List Bool) (hL : TruthsAt W alf lf) (hlf : lf.length = es.length) (s : Nat) (hs : s < es.length) :
    Calls Try.prog 59 #[.agg #[.slice ai ni ci, .slice ae es.length ce, .slice al nl cl], .slice as_ Fs.length cs, .slice alf lf.length clf, .int .i64 (s : Int)] W (TellsB W (GoesP es Fs (fun v => lf.getD v false) s)) := by
  obtain ⟨n, hn⟩ : ∃ n, n = es.length := ⟨_, rfl⟩
  obtain ⟨ns, hns⟩ : ∃ ns, ns = Fs.length := ⟨_, rfl⟩
  rw [hlf]
  have g00 := GOut.start (es := es) (left := fun v => lf.getD v false) hs
  rw [← hn] at hlen hs ⊢
  rw [← hns] at hF ⊢
  rw [← hn] at hlf g00
  have hn2 : (n : Int) ≤ 1000000 := by omega
  have hns2 : (ns : Int) ≤ 1000000 := by omega
  have hsn : (s : Int) < (n : Int) := by omega
  have hby : Hid (1 * n ≤ 281474976710656) := by show _ ≤ _; omega
  have hbf0 : Hid (false = true ↔ ∃ v, (List.replicate n false).getD v false = true) := by
    refine ⟨fun h => (by cases h), fun ⟨v, hv⟩ => ?_⟩
    rw [List.getD_eq_getElem?_getD, List.getElem?_replicate] at hv
    split at hv <;> cases hv
  have hq0 : Hid (unseen (List.replicate n false) * 2 + 1 ≤ 2000001) := by
    show _ ≤ _
    have := unseen_le (List.replicate n false)
    rw [List.length_replicate] at this
    omega
  replace hn := Lib.hid hn
  replace hns := Lib.hid hns
  replace hlf := Lib.hid hlf
  obtain ⟨w1, hw1⟩ : ∃ w1, w1 = W.alloc (.cells #[.slice ai ni ci, .slice ae n ce, .slice al nl cl] TG) := ⟨_, rfl⟩
  have hb1 : Below W.heap.size W w1 := by rw [hw1]; exact balloc (Below.refl _ _) _
  have r1 : RowAt w1 W.heap.size TG [.slice ai ni ci, .slice ae n ce, .slice al nl cl] := by rw [hw1]; exact RowAt.new (w := W) #[.slice ai ni ci, .slice ae n ce, .slice al nl cl] rfl
  have hlt1 := r1.lt
  replace hb1 := Lib.hid hb1
  replace r1 := Lib.hid r1
  replace hE := Lib.hid hE
  replace hS := Lib.hid hS
  replace hL := Lib.hid hL
  replace hrow := Lib.hid hrow
  replace hFs := Lib.hid hFs
  replace g00 := Lib.hid g00
  clear hlen hF
  go_enter Try.func59, Try.ntmps59
  go_wp2_with (at_make; refine wp_makeRow rfl _ _ _ TyBo (.bool false) 1 rfl Try.underlying73 infoBo rfl n rfl rfl hby.out (by decide) ?_)
  intro w2 hM hb2 hlt2
  have hz1 : w1.heap.size = W.heap.size + 1 := by rw [hw1]; simp
  have hb2 : Below w1.heap.size w1 w2 := by rw [hw1]; simpa using hb2
  obtain ⟨g, hg⟩ : ∃ g, g = W.heap.size + 1 := ⟨_, rfl⟩
  rw [← hg] at hM hlt2 hz1
  have st0 : Hid (GoSt W (w2.alloc (.cells #[.int .i64 (s : Int)] 3)) W.heap.size g w2.heap.size [.slice ai ni ci, .slice ae n ce, .slice al nl cl] (List.replicate n false) [s] (some ⟨w2.heap.size, 0, none⟩) 1) := by
    have hA : Below w2.heap.size w2 (w2.alloc (.cells #[.int .i64 (s : Int)] 3)) := balloc (Below.refl _ _) _
    refine ⟨btrans (btrans hb1.out hb2) hA, (r1.out.below hb2).below hA, ?_, ⟨rfl, Nat.le_refl _, by unfold maxLen; omega, fun _ => ⟨w2.heap.size, 0, rfl, Nat.le_refl _, by simp, fun j hj => ?_, fun j hj => ?_⟩⟩, Nat.le_refl _, by omega, by omega, by simp⟩
    · rw [List.map_replicate]; exact hM.below hA
    · have e : j = 0 := by simp at hj; exact hj
      subst e
      rw [World.cell?_alloc_at _ _ _ _ rfl]
      rfl
    · have e : j = 0 := by omega
      subst e
      refine ⟨?_, frozen_new _ _ _ _⟩
      rw [World.cell?_alloc_at _ _ _ _ rfl]
      rfl
  rw [← hg]
  obtain ⟨B, hB⟩ : ∃ B, B = w2.heap.size := ⟨_, rfl⟩
  rw [← hB] at st0
  go_wp2
  rw [← hB]
  generalize w2.alloc (.cells #[.int .i64 (s : Int)] 3) = wq at st0 ⊢
  clear hM hb2 hlt2 hlt1 hw1 r1 hb1 hg hB hz1
  go_loopg [10, 11] (unseen (List.replicate n false) * 2 + 1) (fun q lv sv wr => ∃ (seen : List Bool) (todo : List Nat) (a : Option Addr) (c m : Nat) (b : Bool), lv = .slice a m c ∧ sv = .bool b ∧ Hid (m = todo.length) ∧ Hid (GoSt W wr W.heap.size g B [.slice ai ni ci, .slice ae n ce, .slice al nl cl] seen todo a c) ∧ Hid (GOut es (fun v => lf.getD v false) s seen todo) ∧ Hid (b = true ↔ ∃ v, seen.getD v false = true) ∧ Hid (unseen seen * 2 + todo.length ≤ q ∧ q ≤ 2000001))
  case atStart => exact ⟨_, [s], some ⟨B, 0, none⟩, 1, 1, false, rfl, rfl, rfl, st0, g00, hbf0, ⟨Nat.le_refl _, hq0.out⟩⟩
  case round =>
    obtain ⟨seen, todo, a, c, m, b, rfl, rfl, hm, st, go, hbs, hq⟩ := hrel
    clear st0 g00
    by_cases hm0 : 0 < m
    · obtain ⟨x, todo, rfl⟩ : ∃ x t, todo = x :: t := by
        cases todo with
        | nil => have := hm.out; simp at this; omega
        | cons x t => exact ⟨x, t, rfl⟩
      obtain ⟨m, rfl⟩ : ∃ m', m = m' + 1 := ⟨m - 1, by omega⟩
      have hm1 : Hid (m = todo.length) := by show _ = _; have := hm.out; simp at this; exact this
      have hxe : x < es.length := (go.out.td x (.head _)).1
      have hxn : x < n := by have := hn.out; omega
      have hxN : (x : Int) < (n : Int) := by omega
      have st1 := st.out.tail
      have gi0 := Lib.hid go.out.pop
      obtain ⟨M, hM⟩ : ∃ M, M = unseen seen * 2 + (x :: todo).length := ⟨_, rfl⟩
      have hq1 : Hid (unseen seen * 2 + todo.length < M) := by show _ < _; rw [List.length_cons] at hM; omega
      have hqq := hq.out
      rw [← hM] at hqq
      have hqM : Hid (M ≤ 2000001) := by show _ ≤ _; omega
      replace hqq := Lib.hid hqq
      replace hM := Lib.hid hM
      obtain ⟨bq, oq, rfl, _, _, hcq, _⟩ := st.out.own.row (by have := st.out.own.le; simp at this; omega)
      have cv : wr.cell? ⟨bq, oq, none⟩ = some (.int .i64 (x : Int)) := by have := hcq 0 (by simp); simpa [ints] using this
      have hlc : m + 1 ≤ c := by have := st.out.own.le; have := hm.out; omega
      have hcut := fun w' => run_cut_l (P := Try.prog) Try.underlying22 Try.sizeInt (some ⟨bq, oq, none⟩) (m + 1) c 1 (kl := .i64) (L := 1) rfl (by omega) w'
      obtain ⟨qa2, hqa2⟩ : ∃ qa2, qa2 = cutA (some ⟨bq, oq, none⟩) c 1 1 := ⟨_, rfl⟩
      obtain ⟨qc2, hqc2⟩ : ∃ qc2, qc2 = c - 1 := ⟨_, rfl⟩
      rw [← hqa2, ← hqc2] at hcut st1
      rw [Nat.add_sub_cancel] at hcut
      obtain ⟨bg, og, ar, cr, rfl, _, cg0, hlr, hr0⟩ := hE.out.at x hxe
      obtain ⟨r, hr⟩ : ∃ r, r = es[x] := ⟨_, rfl⟩
      rw [← hr] at cg0 hr0
      obtain ⟨d, hd⟩ : ∃ d, d = r.length := ⟨_, rfl⟩
      have hdI : (d : Int) ≤ 1000000 := by have := hrow.out r (by rw [hr]; exact List.getElem_mem hxe); omega
      rw [← hd] at cg0
      have htg : Hid (tgts es x = r.map (·.1)) := by
        show _ = _
        unfold tgts
        rw [List.getD_eq_getElem?_getD, List.getElem?_eq_getElem hxe, hr]
        rfl
      replace hd := Lib.hid hd
      replace hr := Lib.hid hr
      replace hr0 := Lib.hid hr0
      replace st1 := Lib.hid st1
      replace cg0 := Lib.hid cg0
      clear hqa2 hqc2 hcq hlc hm0 hlr hr hxe hm go hq st
      go_wp2
      clear hcut cv
      go_loopw [10, 11, 13] (fun lv sv kv wr => ∃ (seen : List Bool) (todo : List Nat) (a : Option Addr) (c m : Nat) (b : Bool) (k : Nat), lv = .slice a m c ∧ sv = .bool b ∧ kv = .int .i64 k ∧ k ≤ d ∧ Hid (m = todo.length) ∧ Hid (GoSt W wr W.heap.size g B [.slice ai ni ci, .slice (some ⟨bg, og, none⟩) n ce, .slice al nl cl] seen todo a c) ∧ Hid (GIn es (fun v => lf.getD v false) s seen todo x k) ∧ Hid (b = true ↔ ∃ v, seen.getD v false = true) ∧ Hid (unseen seen * 2 + todo.length < M)) (fun _ _ kv _ => d - (intOf kv).toNat)
      case atStart => exact ⟨seen, todo, qa2, qc2, m, b, 0, rfl, rfl, rfl, Nat.zero_le _, hm1, st1, gi0, hbs, hq1⟩
      case round =>
        obtain ⟨seen, todo, a, c, m, b, k, rfl, rfl, rfl, hk, hm, st, gi, hbs, hq⟩ := hrel
        clear st1 gi0 hq1 hm1
        have x1 : wr.cell? ⟨W.heap.size, 1, none⟩ = some (.slice (some ⟨bg, og, none⟩) n ce) := st.out.box.cell 1
        have cg := bcell st.out.low cg0.out
        by_cases hkd : k < d
        · have hkD : (k : Int) < (d : Int) := by omega
          have hkr : k < r.length := by have := hd.out; omega
          obtain ⟨be, oe, rfl, _, ce0', hce1⟩ := hr0.out.at k hkr
          have ce0 := bcell st.out.low ce0'
          obtain ⟨t, ht⟩ : ∃ t, t = r[k].1 := ⟨_, rfl⟩
          rw [← ht] at ce0
          have htk : (tgts es x)[k]? = some t := by rw [htg.out, List.getElem?_map, List.getElem?_eq_getElem hkr, ht]; rfl
          clear ht hce1 ce0' hkr
          by_cases h0 : 0 ≤ t
          · obtain ⟨v, rfl⟩ := Int.eq_ofNat_of_zero_le h0
            have htk' : (tgts es x)[k]? = some (v : Int) := htk
            by_cases hvn : v < n
            · have hvN : (v : Int) < (n : Int) := by omega
              have hd2 : decide (v < n) = true := decide_eq_true hvn
              have hvs : v < seen.length := by have := gi.out.len; have := hn.out; omega
              have hvl : v < lf.length := by have := hlf.out; omega
              have cs := st.out.cell hvs
              obtain ⟨bl, ol, rfl, _, cl0⟩ := hL.out.at v hvl
              have cl := bcell st.out.low cl0
              have hlv : lf.getD v false = lf[v] := by rw [List.getD_eq_getElem?_getD, List.getElem?_eq_getElem hvl]; rfl
              cases hlb : lf[v] with
              | false =>
                rw [hlb] at cl hlv
                have gi2 := Lib.hid (gi.out.skip htk' (fun u e _ h => by
                  have e2 : v = u := Int.ofNat.inj e
                  rw [← e2, hlv] at h; cases h))
                clear hlb hlv htk htk' gi cl0 cs
                go_wp2
                go_roundw
                case rel => exact ⟨seen, todo, a, c, m, b, k + 1, rfl, rfl, by go_num, by omega, hm, st, gi2, hbs, hq⟩
                case measure => simp [intOf]; omega
              | true =>
                rw [hlb] at cl hlv
                cases hsb : seen.getD v false with
                | true =>
                  rw [hsb] at cs
                  have gi2 := Lib.hid (gi.out.skip htk' (fun u e _ h => by
                    have e2 : v = u := Int.ofNat.inj e
                    rw [← e2]; exact hsb))
                  clear hlb hlv hsb htk htk' gi cl0
                  go_wp2
                  go_roundw
                  case rel => exact ⟨seen, todo, a, c, m, b, k + 1, rfl, rfl, by go_num, by omega, hm, st, gi2, hbs, hq⟩
                  case measure => simp [intOf]; omega
                | false =>
                  rw [hsb] at cs
                  have gi2 := Lib.hid (gi.out.push htk' (by have := hn.out; omega) hlv)
                  have hq2 : Hid (unseen (seen.set v true) * 2 + (todo ++ [v]).length < M) := by
                    show _ < _
                    have h1 := unseen_set hvs hsb
                    have h2 := hq.out
                    rw [List.length_append]
                    simp only [List.length_cons, List.length_nil]
                    omega
                  have hbs2 : Hid (∃ u, (seen.set v true).getD u false = true) := any_set hvs
                  have hfz := st.out.row.free v
                  have hml := st.out.own.len
                  have hks : Keeps wr (wr.setCell ⟨g, v, none⟩ (.bool true)) (fun j => j = g) := Keeps.set wr g v _ rfl
                  have OQ : Hid (OwnIQ ((wr.setCell ⟨g, v, none⟩ (.bool true)).alloc (.cells #[.int .i64 (v : Int)] 3)) B a m c (ints todo)) := by
                    have h5 := st.out.own
                    rw [← hm.out] at h5
                    exact (h5.keeps hks (fun j hj _ _ e => by have := st.out.h3; omega)).below (balloc (Below.refl _ _) _)
                  have NC : Hid (NumsAt .i64 ((wr.setCell ⟨g, v, none⟩ (.bool true)).alloc (.cells #[.int .i64 (v : Int)] 3)) (some ⟨wr.heap.size, 0, none⟩) [(v : Int)]) := fun _ => ⟨wr.heap.size, 0, rfl, fun i hi => by
                    have e : i = 0 := by simp at hi; exact hi
                    subst e
                    rw [World.cell?_alloc_at _ _ _ _ (by simp [World.setCell])]
                    rfl⟩
                  have hmn : m ≤ 2000001 := by have := hq.out; have := hm.out; have := hqM.out; omega
                  have yy : Hid ((m + 1) * 8 ≤ 140737488355328) := by show _ ≤ _; omega
                  have BB : Hid (B ≤ ((wr.setCell ⟨g, v, none⟩ (.bool true)).alloc (.cells #[.int .i64 (v : Int)] 3)).heap.size) := by
                    show _ ≤ _
                    have h5 := st.out.h4
                    have h6 : (wr.setCell ⟨g, v, none⟩ (.bool true)).heap.size = wr.heap.size := by simp [World.setCell]
                    have h7 := (Keeps.alloc (wr.setCell ⟨g, v, none⟩ (.bool true)) (.cells #[.int .i64 (v : Int)] 3) (fun _ => False)).size
                    omega
                  clear hlb hlv hsb htk htk' gi cl0 hks hml hmn
                  go_wp2_with (at_builtin; refine wp_appIQ rfl _ _ 22 3 rfl Try.underlying22 infoI B a m c (ints todo) rfl OQ.out BB.out _ 1 1 [(v : Int)] rfl rfl NC.out yy.out ?_)
                  intro a5 c5 w5 ho5 hk5
                  have st5 := Lib.hid (st.out.put _ (by rw [← hm.out]; exact ho5) (by rw [← hm.out]; exact hk5))
                  have hm5 : Hid (m + 1 = (todo ++ [v]).length) := by show _ = _; rw [List.length_append, ← hm.out]; rfl
                  clear OQ NC yy BB ho5 hk5 st hm
                  go_wp2
                  go_roundw
                  case rel => exact ⟨_, _, a5, c5, m + 1, true, k + 1, rfl, rfl, by go_num, by omega, hm5, st5, gi2, ⟨fun _ => hbs2.out, fun _ => rfl⟩, hq2⟩
                  case measure => simp [intOf]; omega
            · have hd2 : decide (v < n) = false := decide_eq_false hvn
              have gi2 := Lib.hid (gi.out.skip htk' (fun u e h _ => by
                have e2 : v = u := Int.ofNat.inj e
                have := hn.out; omega))
              clear htk htk' gi
              go_wp2
              go_roundw
              case rel => exact ⟨seen, todo, a, c, m, b, k + 1, rfl, rfl, by go_num, by omega, hm, st, gi2, hbs, hq⟩
              case measure => simp [intOf]; omega
          · have hd1 : decide (0 ≤ t) = false := decide_eq_false h0
            have gi2 := Lib.hid (gi.out.skip htk (fun u e _ _ => by omega))
            clear htk gi
            go_wp2
            go_roundw
            case rel => exact ⟨seen, todo, a, c, m, b, k + 1, rfl, rfl, by go_num, by omega, hm, st, gi2, hbs, hq⟩
            case measure => simp [intOf]; omega
        · obtain rfl : k = d := by omega
          have go2 := Lib.hid (gi.out.out (by rw [htg.out, List.length_map, ← hd.out]; exact Nat.le_refl _))
          clear gi
          go_wp2
          go_roundg (unseen seen * 2 + todo.length)
          case measure => have := hq.out; have := hqq.out; omega
          case rel => exact ⟨seen, todo, a, c, m, b, rfl, rfl, hm, st, go2, hbs, ⟨Nat.le_refl _, by have := hq.out; have := hqM.out; omega⟩⟩
    · obtain rfl : m = 0 := by omega
      obtain rfl : todo = [] := List.eq_nil_of_length_eq_zero hm.out.symm
      have hdone := Lib.hid (AnyN.goes (Fs := Fs) go.out.done)
      have hsl : Hid (seen.length = n) := by show _ = _; rw [go.out.len, hn.out]
      have hb0 : Hid (b = true ↔ AnyN seen Fs 0) := by
        refine hbs.out.trans ⟨fun h => ⟨h, by simp⟩, fun h => h.1⟩
      have hlo := Lib.hid st.out.low
      have hro := Lib.hid st.out.row
      clear hbs hq go hm hm0 hE st hq0 hbf0
      go_wp2
      go_loop [11, 15] (fun sv iv => ∃ (i : Nat) (b : Bool), sv = .bool b ∧ iv = .int .i64 i ∧ i ≤ ns ∧ Hid (b = true ↔ AnyN seen Fs i)) (fun _ iv => ns - (intOf iv).toNat)
      case atStart => exact ⟨0, b, rfl, rfl, Nat.zero_le _, hb0⟩
      case round =>
        obtain ⟨i, b, rfl, rfl, hi, hb⟩ := hrel
        clear hb0
        by_cases hin : i < ns
        · have hiN : (i : Int) < (ns : Int) := by omega
          have hiF : i < Fs.length := by have := hns.out; omega
          obtain ⟨bs, os, aF, cF, rfl, _, cFs0, hT⟩ := hS.out.at i hiF
          have cFs := bcell hlo.out cFs0
          obtain ⟨F, hFe⟩ : ∃ F, F = Fs[i] := ⟨_, rfl⟩
          rw [← hFe] at cFs hT
          have hFi : Fs[i]? = some F := by rw [hFe]; exact List.getElem?_eq_getElem hiF
          obtain ⟨fl, hfl⟩ : ∃ fl, fl = F.length := ⟨_, rfl⟩
          have hflI : (fl : Int) ≤ 1000000 := by have := hFs.out F (List.mem_of_getElem? hFi); omega
          rw [← hfl] at cFs
          have hsucc := AnyN.succ (seen := seen) hFi
          rw [hsl.out] at hsucc
          replace hsucc := Lib.hid hsucc
          replace hFi := Lib.hid hFi
          replace hfl := Lib.hid hfl
          replace hT := Lib.hid hT
          have hz : Hid (false = true ↔ MetN seen F 0) := ⟨fun h => (by cases h), fun h => absurd h (MetN.zero _ _)⟩
          clear hFe cFs0 hiF
          go_wp2
          go_loop [16, 17] (fun mv kv => ∃ (k : Nat) (b2 : Bool), mv = .bool b2 ∧ kv = .int .i64 k ∧ k ≤ n ∧ Hid (b2 = true ↔ MetN seen F k)) (fun _ kv => n - (intOf kv).toNat)
          case atStart => exact ⟨0, false, rfl, rfl, Nat.zero_le _, hz⟩
          case round =>
            obtain ⟨k, b2, rfl, rfl, hk, hmet⟩ := hrel
            clear hz
            by_cases hkn : k < n
            · have hkN : (k : Int) < (n : Int) := by omega
              have hks : k < seen.length := by have := hsl.out; omega
              have cs := hro.out.cell k
              rw [List.getElem?_map, List.getElem?_eq_getElem hks] at cs
              have hse : seen.getD k false = seen[k] := by rw [List.getD_eq_getElem?_getD, List.getElem?_eq_getElem hks]; rfl
              simp only [Option.map_some] at cs
              rw [← hse] at cs
              clear hse
              cases b2 with
              | true =>
                have hb3 : Hid (true = true ↔ MetN seen F (k + 1)) := ⟨fun _ => MetN.succ.2 (.inl (hmet.out.1 rfl)), fun _ => rfl⟩
                clear cs
                go_wp2
                go_round
                case rel => exact ⟨k + 1, true, rfl, by go_num, by omega, hb3⟩
                case measure => simp [intOf]; omega
              | false =>
                have hno : ¬ MetN seen F k := fun h => by have := hmet.out.2 h; cases this
                cases hsb : seen.getD k false with
                | false =>
                  rw [hsb] at cs
                  have hb3 : Hid (false = true ↔ MetN seen F (k + 1)) := ⟨fun h => (by cases h), fun h => by
                    rcases MetN.succ.1 h with h | h
                    · exact absurd h hno
                    · rw [hsb] at h; cases h.1⟩
                  clear hsb hno hmet
                  go_wp2
                  go_round
                  case rel => exact ⟨k + 1, false, rfl, by go_num, by omega, hb3⟩
                  case measure => simp [intOf]; omega
                | true =>
                  rw [hsb] at cs
                  by_cases hkf : k < fl
                  · have hd2 : decide (k < fl) = true := decide_eq_true hkf
                    have hkfN : (k : Int) < (fl : Int) := by omega
                    have hkF : k < F.length := by have := hfl.out; omega
                    obtain ⟨bF, oF, rfl, _, cF0⟩ := hT.out.at k hkF
                    have cF1 := bcell hlo.out cF0
                    have hFk : F.getD k false = F[k] := by rw [List.getD_eq_getElem?_getD, List.getElem?_eq_getElem hkF]; rfl
                    obtain ⟨fb, hfb⟩ : ∃ fb, fb = F[k] := ⟨_, rfl⟩
                    rw [← hfb] at cF1 hFk
                    have hb3 : Hid (fb = true ↔ MetN seen F (k + 1)) := by
                      refine ⟨fun h => MetN.succ.2 (.inr ⟨hsb, hFk.trans h⟩), fun h => ?_⟩
                      rcases MetN.succ.1 h with h | h
                      · exact absurd h hno
                      · exact hFk.symm.trans h.2
                    clear hsb hno hmet cF0 hFk hfb
                    go_wp2
                    go_round
                    case rel => exact ⟨k + 1, fb, rfl, by go_num, by omega, hb3⟩
                    case measure => simp [intOf]; omega
                  · have hd2 : decide (k < fl) = false := decide_eq_false hkf
                    have hb3 : Hid (false = true ↔ MetN seen F (k + 1)) := ⟨fun h => (by cases h), fun h => by
                      rcases MetN.succ.1 h with h | h
                      · exact absurd h hno
                      · have := getD_lt h.2; have := hfl.out; omega⟩
                    clear hsb hno hmet
                    go_wp2
                    go_round
                    case rel => exact ⟨k + 1, false, rfl, by go_num, by omega, hb3⟩
                    case measure => simp [intOf]; omega
            · obtain rfl : k = n := by omega
              have hb4 : Hid ((b && b2) = true ↔ AnyN seen Fs (i + 1)) := by
                show _ ↔ _
                rw [hsucc.out, ← hb.out, ← hmet.out, Bool.and_eq_true]
              cases b with
              | true =>
                rw [Bool.true_and] at hb4
                go_wp2
                go_round
                case rel => exact ⟨i + 1, b2, rfl, by go_num, by omega, hb4⟩
                case measure => simp [intOf]; omega
              | false =>
                rw [Bool.false_and] at hb4
                go_wp2
                go_round
                case rel => exact ⟨i + 1, false, rfl, by go_num, by omega, hb4⟩
                case measure => simp [intOf]; omega
        · obtain rfl : i = ns := by omega
          have hb4 : Hid (b = true ↔ GoesP es Fs (fun v => lf.getD v false) s) := by
            show _ ↔ _
            rw [hb.out, hns.out]
            exact hdone.out
          go_wp2
          go_ret
          exact ⟨b, rfl, hb4.out, hlo.out⟩
end Go.Proofs.Ytfcpfcgcfaacnaa
