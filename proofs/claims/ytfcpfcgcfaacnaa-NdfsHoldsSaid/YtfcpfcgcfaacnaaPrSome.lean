/- The document's 'Some': whether a way that goes on for ever begins with a first node. Conditions: the bounds of a graph. -/
import Derived.Test.YtfcpfcgcfaacnaaPrGoes
namespace Go.Proofs.Ytfcpfcgcfaacnaa
open Go.RowKit

/-- those ahead of a place -/
def trueTo (n i : Nat) : List Bool := (List.range n).map fun j => decide (j < i)
theorem trueTo_len (n i : Nat) : (trueTo n i).length = n := by simp [trueTo]
theorem trueTo_zero (n : Nat) : trueTo n 0 = List.replicate n false := by
  apply List.ext_getElem
  · simp [trueTo]
  · intro j h1 h2
    simp [trueTo]
theorem trueTo_set (n i : Nat) : (trueTo n i).set i true = trueTo n (i + 1) := by
  apply List.ext_getElem
  · simp [trueTo]
  · intro j h1 h2
    rw [List.getElem_set]
    simp only [trueTo, List.getElem_map, List.getElem_range]
    by_cases e : i = j
    · subst e
      rw [if_pos rfl, decide_eq_true (by omega)]
    · rw [if_neg e]
      by_cases h : j < i
      · rw [decide_eq_true h, decide_eq_true (by omega)]
      · rw [decide_eq_false h, decide_eq_false (by omega)]
theorem trueTo_all {n v : Nat} (h : v < n) : (trueTo n n).getD v false = true := by simp [trueTo, List.getD, h]
/-- how many are left -/
def trues (l : List Bool) : Nat := (l.filter (·)).length
theorem trues_le (l : List Bool) : trues l ≤ l.length := List.length_filter_le _ _
theorem trues_set : ∀ {l : List Bool} {v : Nat}, l.getD v false = true → trues (l.set v false) + 1 = trues l
  | [], _, h => by simp at h
  | b :: l, 0, h => by
    have e : b = true := by simpa using h
    subst e
    simp [trues]
  | b :: l, v + 1, h => by
    have := trues_set (l := l) (v := v) (by simpa using h)
    cases b <;> simp [trues] at this ⊢ <;> omega
theorem set_off (l : List Bool) (i v : Nat) : (l.set i false).getD v false = (decide (v ≠ i) && l.getD v false) := by
  rw [List.getD_eq_getElem?_getD, List.getD_eq_getElem?_getD, List.getElem?_set]
  by_cases e : i = v
  · subst e
    rw [if_pos rfl]
    simp
    split <;> rfl
  · rw [if_neg e]
    have : decide (v ≠ i) = true := decide_eq_true (fun h => e h.symm)
    rw [this, Bool.true_and]
/-- while nodes are struck -/
structure SmSt (W w : World) (X g : Nat) (gc : List Value) (lf : List Bool) : Prop where
  low : Below W.heap.size W w
  box : RowAt w X TG gc
  row : RowAt w g TyBo (lf.map .bool)
  h1 : W.heap.size ≤ X
  h2 : X < g
section
variable {W w w' : World} {X g : Nat} {gc : List Value} {lf : List Bool}
theorem SmSt.below (h : SmSt W w X g gc lf) (hb : Below w.heap.size w w') : SmSt W w' X g gc lf := ⟨btrans h.low hb, h.box.below hb, h.row.below hb, h.h1, h.h2⟩
theorem SmSt.set (h : SmSt W w X g gc lf) (v : Nat) (b : Bool) : SmSt W (w.setCell ⟨g, v, none⟩ (.bool b)) X g gc (lf.set v b) := by
  have hks : Keeps w (w.setCell ⟨g, v, none⟩ (.bool b)) (fun j => j = g) := Keeps.set w g v _ rfl
  have hr := h.row.set v (.bool b)
  rw [← List.map_set] at hr
  have h2 := h.h2
  have h1 := h.h1
  exact ⟨hks.below h.low (fun j e => by omega), h.box.keeps hks (by omega), hr, h1, h2⟩
theorem SmSt.cell (h : SmSt W w X g gc lf) {v : Nat} (hv : v < lf.length) : w.cell? ⟨g, v, none⟩ = some (.bool (lf.getD v false)) := by
  rw [h.row.cell]
  simp [List.getD, hv]
end
/-- each of the first i leads on -/
def GoesTo (es : List (List PR)) (Fs : List (List Bool)) (lf : List Bool) (i : Nat) : Prop := ∀ v, v < i → lf.getD v false = true → GoesP es Fs (fun v => lf.getD v false) v
theorem GoesTo.succ {es : List (List PR)} {Fs : List (List Bool)} {lf : List Bool} {i : Nat} (h : GoesTo es Fs lf i) (hi : lf.getD i false = true → GoesP es Fs (fun v => lf.getD v false) i) : GoesTo es Fs lf (i + 1) := by
  intro v hv hl
  by_cases e : v = i
  · subst e; exact hi hl
  · exact h v (by omega) hl
/-- all that is good is left -/
def Holds (es : List (List PR)) (Fs : List (List Bool)) (lf : List Bool) : Prop := ∀ L, GoodL es Fs L → ∀ v, L v = true → lf.getD v false = true
theorem Holds.strike {es : List (List PR)} {Fs : List (List Bool)} {lf : List Bool} {i : Nat} (h : Holds es Fs lf) (hn : ¬ GoesP es Fs (fun v => lf.getD v false) i) : Holds es Fs (lf.set i false) := by
  intro L hL v hv
  rw [set_off]
  exact GoodL.strike (left := fun v => lf.getD v false) h hn L hL v hv
theorem Holds.start {es : List (List PR)} {Fs : List (List Bool)} {n : Nat} (hn : n = es.length) : Holds es Fs (trueTo n n) := by
  intro L hL v hv
  exact trueTo_all (by rw [hn]; exact (hL v hv).1)
/-- the first of init's first i that is left -/
def Some1 (init : List Int) (lf : List Bool) (i : Nat) : Prop := ∃ x ∈ init.take i, ∃ v : Nat, x = (v : Int) ∧ lf.getD v false = true
theorem Some1.zero (init : List Int) (lf : List Bool) : ¬ Some1 init lf 0 := by
  rintro ⟨x, hx, _⟩
  simp at hx
theorem Some1.succ {init : List Int} {lf : List Bool} {i : Nat} {x : Int} (h : init[i]? = some x) : Some1 init lf (i + 1) ↔ Some1 init lf i ∨ ∃ v : Nat, x = (v : Int) ∧ lf.getD v false = true := by
  unfold Some1
  rw [List.take_add_one, h]
  simp only [Option.toList_some, List.mem_append, List.mem_singleton]
  constructor
  · rintro ⟨y, hy | rfl, hv⟩
    · exact .inl ⟨y, hy, hv⟩
    · exact .inr hv
  · rintro (⟨y, hy, hv⟩ | hv)
    · exact ⟨y, .inl hy, hv⟩
    · exact ⟨x, .inr rfl, hv⟩
theorem Some1.all {init : List Int} {es : List (List PR)} {Fs : List (List Bool)} {lf : List Bool} (h1 : Holds es Fs lf) (h2 : GoesTo es Fs lf es.length) (hl : lf.length = es.length) {i : Nat} (hi : init.length ≤ i) : Some1 init lf i ↔ SomeP init es Fs := by
  unfold Some1
  rw [List.take_of_length_le hi]
  exact SomeP.of_end (left := fun v => lf.getD v false) h1 (fun v hv => ⟨by rw [← hl]; exact getD_lt hv, h2 v (by rw [← hl]; exact getD_lt hv) hv⟩)
theorem Some1.mono {init : List Int} {lf : List Bool} {i j : Nat} (h : Some1 init lf i) (hij : i ≤ j) : Some1 init lf j := by
  obtain ⟨x, hx, hv⟩ := h
  exact ⟨x, List.take_subset_take_left init hij hx, hv⟩

set_option maxRecDepth 10000 in
set_option maxHeartbeats 8000000 in
theorem some_any (W : World) (ai : Option Addr) (ci : Nat) (init : List Int) (hI : NumsAt .i64 W ai init) (hil : init.length ≤ 1000000) (ae : Option Addr) (ce : Nat) (al : Option Addr) (nl cl : Nat) (es : List (List PR)) (hE : EdgesAt W ae es) (hlen : es.length ≤ 1000000) (hrow : ∀ r ∈ es, r.length ≤ 1000000)
    (as_ : Option Addr) (cs : Nat) (Fs : List (List Bool)) (hS : SetsAt W as_ Fs) (hF : Fs.length ≤ 1000000) (hFs : ∀ F ∈ Fs, F.length ≤ 1000000) :
    Calls Try.prog 28 #[.agg #[.slice ai init.length ci, .slice ae es.length ce, .slice al nl cl], .slice as_ Fs.length cs] W (TellsB W (SomeP init es Fs)) := by
  obtain ⟨n, hn⟩ : ∃ n, n = es.length := ⟨_, rfl⟩
  obtain ⟨ni, hni⟩ : ∃ ni, ni = init.length := ⟨_, rfl⟩
  obtain ⟨ns, hns⟩ : ∃ ns, ns = Fs.length := ⟨_, rfl⟩
  have GO : Hid (∀ w, Below W.heap.size W w → ∀ (lf : List Bool) (g s : Nat), RowAt w g TyBo (lf.map .bool) → lf.length = n → s < n → Calls Try.prog 59 #[.agg #[.slice ai ni ci, .slice ae n ce, .slice al nl cl], .slice as_ ns cs, .slice (some ⟨g, 0, none⟩) n n, .int .i64 (s : Int)] w (TellsB w (GoesP es Fs (fun v => lf.getD v false) s))) := fun w hb lf g s hr hl hs => by
    have := goes_any w ai ni ci ae ce al nl cl es (hE.below hb) hlen hrow as_ cs Fs (hS.below hb) hF hFs (some ⟨g, 0, none⟩) n lf (TruthsAt.of_row hr) (by rw [hl, hn]) s (by rw [← hn]; exact hs)
    rw [hl, ← hn, ← hns] at this
    exact this
  rw [← hn] at hlen ⊢
  rw [← hni] at hil ⊢
  rw [← hns] at hF ⊢
  have hn2 : (n : Int) ≤ 1000000 := by omega
  have hns2 : (ns : Int) ≤ 1000000 := by omega
  have hni2 : (ni : Int) ≤ 1000000 := by omega
  have hby : Hid (1 * n ≤ 281474976710656) := by show _ ≤ _; omega
  replace hn := Lib.hid hn
  replace hns := Lib.hid hns
  replace hni := Lib.hid hni
  obtain ⟨w1, hw1⟩ : ∃ w1, w1 = W.alloc (.cells #[.slice ai ni ci, .slice ae n ce, .slice al nl cl] TG) := ⟨_, rfl⟩
  have hb1 : Below W.heap.size W w1 := by rw [hw1]; exact balloc (Below.refl _ _) _
  have r1 : RowAt w1 W.heap.size TG [.slice ai ni ci, .slice ae n ce, .slice al nl cl] := by rw [hw1]; exact RowAt.new (w := W) #[.slice ai ni ci, .slice ae n ce, .slice al nl cl] rfl
  have x1 : (W.alloc (.cells #[.slice ai ni ci, .slice ae n ce, .slice al nl cl] TG)).cell? ⟨W.heap.size, 1, none⟩ = some (.slice ae n ce) := by rw [← hw1]; exact r1.cell 1
  have hlt1 := r1.lt
  replace hb1 := Lib.hid hb1
  replace r1 := Lib.hid r1
  replace hI := Lib.hid hI
  clear hlen hF hil hE hrow hS hFs
  go_enter Try.func28, Try.ntmps28
  go_wp2_with (at_make; refine wp_makeRow rfl _ _ _ TyBo (.bool false) 1 rfl Try.underlying73 infoBo rfl n rfl rfl hby.out (by decide) ?_)
  intro w2 hM hb2 hlt2
  have hz1 : w1.heap.size = W.heap.size + 1 := by rw [hw1]; simp
  have hb2 : Below w1.heap.size w1 w2 := by rw [hw1]; simpa using hb2
  obtain ⟨g, hg⟩ : ∃ g, g = W.heap.size + 1 := ⟨_, rfl⟩
  rw [← hg] at hM hlt2 hz1
  have st0 : Hid (SmSt W w2 W.heap.size g [.slice ai ni ci, .slice ae n ce, .slice al nl cl] (trueTo n 0)) := by
    refine ⟨btrans hb1.out hb2, r1.out.below hb2, ?_, Nat.le_refl _, by omega⟩
    rw [trueTo_zero, List.map_replicate]
    exact hM
  rw [← hg]
  clear hM hb2 hlt2 hlt1 hw1 r1 hb1 hg hz1 x1
  go_wp2
  go_loopw [6] (fun iv wr => ∃ i : Nat, iv = .int .i64 i ∧ i ≤ n ∧ Hid (SmSt W wr W.heap.size g [.slice ai ni ci, .slice ae n ce, .slice al nl cl] (trueTo n i))) (fun iv _ => n - (intOf iv).toNat)
  case atStart => exact ⟨0, rfl, Nat.zero_le _, st0⟩
  case round =>
    obtain ⟨i, rfl, hi, st⟩ := hrel
    clear st0
    by_cases hin : i < n
    · have hiN : (i : Int) < (n : Int) := by omega
      have cv := st.out.cell (v := i) (by rw [trueTo_len]; exact hin)
      have hfz := st.out.row.free i
      have st2 := st.out.set i true
      rw [trueTo_set] at st2
      replace st2 := Lib.hid st2
      clear st
      go_wp2
      go_roundw
      case rel => exact ⟨i + 1, by go_num, by omega, st2⟩
      case measure => simp [intOf]; omega
    · obtain rfl : i = n := by omega
      have hh0 := Lib.hid (Holds.start (es := es) (Fs := Fs) hn.out)
      have hq0 : Hid (trues (trueTo i i) + 1 ≤ i + 1) := by
        show _ ≤ _
        have := trues_le (trueTo i i)
        rw [trueTo_len] at this
        omega
      have hl0 := Lib.hid (trueTo_len i i)
      have hg0 : Hid (true = false → GoesTo es Fs (trueTo i i) i) := fun h => by cases h
      obtain ⟨n, hnn⟩ : ∃ n, n = i := ⟨_, rfl⟩
      subst hnn
      clear hi hin
      go_wp2
      go_loopg [7] (n + 1) (fun q av wr => ∃ (lf : List Bool) (again : Bool), av = .bool again ∧ Hid (SmSt W wr W.heap.size g [.slice ai ni ci, .slice ae n ce, .slice al nl cl] lf) ∧ Hid (lf.length = n) ∧ Hid (Holds es Fs lf) ∧ Hid (again = false → GoesTo es Fs lf n) ∧ Hid (trues lf + (if again = true then 1 else 0) ≤ q))
      case atStart => exact ⟨trueTo n n, true, rfl, st, hl0, hh0, fun h => (by cases h), hq0.out⟩
      case round =>
        obtain ⟨lf, again, rfl, st, hll, hh, hgo, hq⟩ := hrel
        clear hh0 hq0 hl0 hg0
        cases again with
        | true =>
          obtain ⟨T, hT⟩ : ∃ T, T = trues lf := ⟨_, rfl⟩
          have hqT : Hid (trues lf + 1 ≤ _) := hq.out
          rw [← hT] at hqT
          have hT0 : Hid (trues lf ≤ T) := by show _ ≤ _; rw [hT]; exact Nat.le_refl _
          have hgo0 : Hid (GoesTo es Fs lf 0) := fun v hv => absurd hv (Nat.not_lt_zero _)
          clear hT hgo hq
          go_wp2
          go_loopw [7, 8] (fun av iv wr => ∃ (lf : List Bool) (again : Bool) (i : Nat), av = .bool again ∧ iv = .int .i64 i ∧ i ≤ n ∧ Hid (SmSt W wr W.heap.size g [.slice ai ni ci, .slice ae n ce, .slice al nl cl] lf) ∧ Hid (lf.length = n) ∧ Hid (Holds es Fs lf) ∧ Hid (again = false → GoesTo es Fs lf i) ∧ Hid (trues lf + (if again = true then 1 else 0) ≤ T)) (fun _ iv _ => n - (intOf iv).toNat)
          case atStart => exact ⟨lf, false, 0, rfl, rfl, Nat.zero_le _, st, hll, hh, fun _ => hgo0.out, hT0.out⟩
          case round =>
            obtain ⟨lf, again, i, rfl, rfl, hi, st, hll, hh, hgo, hq⟩ := hrel
            clear hgo0 hT0
            by_cases hin : i < n
            · have hiN : (i : Int) < (n : Int) := by omega
              have hil : i < lf.length := by have := hll.out; omega
              have cv := st.out.cell hil
              cases hlb : lf.getD i false with
              | false =>
                rw [hlb] at cv
                have hgo2 : Hid (again = false → GoesTo es Fs lf (i + 1)) := fun h => (hgo.out h).succ (fun h2 => by rw [hlb] at h2; cases h2)
                clear hlb hgo
                go_wp2
                go_roundw
                case rel => exact ⟨lf, again, i + 1, rfl, by go_num, by omega, st, hll, hh, hgo2, hq⟩
                case measure => simp [intOf]; omega
              | true =>
                rw [hlb] at cv
                have GW := Lib.hid (GO.out wr st.out.low lf g i st.out.row hll.out hin)
                have x0 : wr.cell? ⟨W.heap.size, 0, none⟩ = some (.slice ai ni ci) := st.out.box.cell 0
                have x1 : wr.cell? ⟨W.heap.size, 1, none⟩ = some (.slice ae n ce) := st.out.box.cell 1
                have x2 : wr.cell? ⟨W.heap.size, 2, none⟩ = some (.slice al nl cl) := st.out.box.cell 2
                replace hlb := Lib.hid hlb
                go_wp2_with fail
                refine GW.out.mono ?_
                rintro e w3 ⟨b, rfl, hb, hbl⟩
                have st3 := st.out.below hbl
                clear GW cv x0 x1 x2 st hbl
                cases b with
                | true =>
                  have hgo2 : Hid (again = false → GoesTo es Fs lf (i + 1)) := fun h => (hgo.out h).succ (fun _ => hb.1 rfl)
                  replace st3 := Lib.hid st3
                  clear hb hgo
                  simp only [Bool.not_true]
                  go_wp2
                  go_roundw
                  case rel => exact ⟨lf, again, i + 1, rfl, by go_num, by omega, st3, hll, hh, hgo2, hq⟩
                  case measure => simp [intOf]; omega
                | false =>
                  have hh2 := Lib.hid (hh.out.strike (i := i) (fun h => by have := hb.2 h; cases this))
                  have hl2 : Hid ((lf.set i false).length = n) := by show _ = _; rw [List.length_set]; exact hll.out
                  have hq2 : Hid (trues (lf.set i false) + (if true = true then 1 else 0) ≤ T) := by
                    show _ ≤ _
                    have h1 := trues_set hlb.out
                    have h2 := hq.out
                    rw [if_pos rfl]
                    omega
                  have hgo2 : Hid (true = false → GoesTo es Fs (lf.set i false) (i + 1)) := fun h => by cases h
                  have st4 := Lib.hid (st3.set i false)
                  have cv := st3.cell hil
                  have hfz := st3.row.free i
                  clear hb hgo st3
                  simp only [Bool.not_false]
                  go_wp2
                  go_roundw
                  case rel => exact ⟨_, true, i + 1, rfl, by go_num, by omega, st4, hl2, hh2, fun h => (by cases h), hq2.out⟩
                  case measure => simp [intOf]; omega
            · obtain rfl : i = n := by omega
              go_wp2
              go_roundg (trues lf + (if again = true then 1 else 0))
              case measure => have h1 := hq.out; have h2 := hqT.out; omega
              case rel => exact ⟨lf, again, rfl, st, hll, hh, hgo, Nat.le_refl _⟩
        | false =>
          have hall : Hid (∀ k, init.length ≤ k → (Some1 init lf k ↔ SomeP init es Fs)) := fun k hk => Some1.all hh.out (by rw [← hn.out]; exact hgo.out rfl) (by rw [hll.out, hn.out]) hk
          have hno0 : Hid (¬ Some1 init lf 0) := Some1.zero _ _
          clear hgo hq hh GO
          go_wp2
          go_loop [4, 9] (fun rv iv => ∃ i : Nat, rv = .bool false ∧ iv = .int .i64 i ∧ i ≤ ni ∧ Hid (¬ Some1 init lf i)) (fun _ iv => ni - (intOf iv).toNat)
          case atStart => exact ⟨0, rfl, rfl, Nat.zero_le _, hno0⟩
          case round =>
            obtain ⟨i, rfl, rfl, hi, hno⟩ := hrel
            clear hno0
            have x0 : wr.cell? ⟨W.heap.size, 0, none⟩ = some (.slice ai ni ci) := st.out.box.cell 0
            by_cases hin : i < ni
            · have hiN : (i : Int) < (ni : Int) := by omega
              have hii : i < init.length := by have := hni.out; omega
              obtain ⟨bi, oi, rfl, hci⟩ := hI.out (by omega)
              have cv := bcell st.out.low (hci i hii)
              obtain ⟨x, hx⟩ : ∃ x, x = init.getD i 0 := ⟨_, rfl⟩
              rw [← hx] at cv
              have hxi : init[i]? = some x := by rw [hx, List.getD_eq_getElem?_getD, List.getElem?_eq_getElem hii]; rfl
              have hsu := Some1.succ (lf := lf) hxi
              replace hsu := Lib.hid hsu
              clear hx hxi hci
              by_cases h0 : 0 ≤ x
              · obtain ⟨v, rfl⟩ := Int.eq_ofNat_of_zero_le h0
                by_cases hvn : v < n
                · have hvN : (v : Int) < (n : Int) := by omega
                  have hd2 : decide (v < n) = true := decide_eq_true hvn
                  have cl := st.out.cell (v := v) (by have := hll.out; omega)
                  cases hlb : lf.getD v false with
                  | true =>
                    rw [hlb] at cl
                    have hyes : Hid (SomeP init es Fs) := by
                      have h1 := hsu.out.2 (.inr ⟨v, rfl, hlb⟩)
                      exact (hall.out init.length (Nat.le_refl _)).1 (h1.mono (by omega))
                    have hlo := Lib.hid st.out.low
                    clear hlb hsu hno hall
                    go_wp2
                    go_ret
                    exact ⟨true, rfl, ⟨fun _ => hyes.out, fun _ => rfl⟩, hlo.out⟩
                  | false =>
                    rw [hlb] at cl
                    have hno2 : Hid (¬ Some1 init lf (i + 1)) := fun h => by
                      rcases hsu.out.1 h with h | ⟨u, hu, h⟩
                      · exact hno.out h
                      · have e : v = u := Int.ofNat.inj hu
                        rw [← e, hlb] at h; cases h
                    clear hlb hsu hno
                    go_wp2
                    go_round
                    case rel => exact ⟨i + 1, rfl, by go_num, by omega, hno2⟩
                    case measure => simp [intOf]; omega
                · have hd2 : decide (v < n) = false := decide_eq_false hvn
                  have hno2 : Hid (¬ Some1 init lf (i + 1)) := fun h => by
                    rcases hsu.out.1 h with h | ⟨u, hu, h⟩
                    · exact hno.out h
                    · have e : v = u := Int.ofNat.inj hu
                      have := getD_lt h
                      have := hll.out
                      omega
                  clear hsu hno
                  go_wp2
                  go_round
                  case rel => exact ⟨i + 1, rfl, by go_num, by omega, hno2⟩
                  case measure => simp [intOf]; omega
              · have hd1 : decide (0 ≤ x) = false := decide_eq_false h0
                have hno2 : Hid (¬ Some1 init lf (i + 1)) := fun h => by
                  rcases hsu.out.1 h with h | ⟨u, hu, h⟩
                  · exact hno.out h
                  · omega
                clear hsu hno
                go_wp2
                go_round
                case rel => exact ⟨i + 1, rfl, by go_num, by omega, hno2⟩
                case measure => simp [intOf]; omega
            · obtain rfl : i = ni := by omega
              have hnos : Hid (¬ SomeP init es Fs) := fun h => hno.out ((hall.out _ (by rw [hni.out]; exact Nat.le_refl _)).2 h)
              have hlo := Lib.hid st.out.low
              go_wp2
              go_ret
              exact ⟨false, rfl, ⟨fun h => (by cases h), fun h => absurd h hnos.out⟩, hlo.out⟩
end Go.Proofs.Ytfcpfcgcfaacnaa
