/- The walks of a graph's Check, of the program and of the document. Conditions: none but the bounds of an argument. -/
import Derived.Test.YtmlbjfaofppikaaPrIn
namespace Go.Proofs.Ytmlbjfaofppikaa
open Go.RowKit

/-- whether a graph may be -/
def gchk (G : GR) : Int :=
  if 65536 < G.edges.length then 11 else if G.labels.length ≠ G.edges.length then 3 else if G.init.any (outB G.edges.length) then 10 else if G.edges.any (fun l => l.any fun e => outB G.edges.length e.1) then 10 else 0
theorem gnode_any (w : World) (ai ae al : Option Addr) (ni ci n ce nl cl : Nat) (x : Int) :
    Calls Try.prog 51 #[.agg #[.slice ai ni ci, .slice ae n ce, .slice al nl cl], .int .i64 x] w fun e w' => e = .returned (.bool (!outB n x)) ∧ Below w.heap.size w w' := by
  have hb := balloc (Below.refl w.heap.size w) (.cells #[.slice ai ni ci, .slice ae n ce, .slice al nl cl] TG)
  by_cases h : x < 0
  · have hr : Hid (outB n x = true) := by show _ = _; unfold outB; rw [decide_eq_true h]; rfl
    have h' : decide (0 ≤ x) = false := by simpa using h
    rw [hr.out]
    go_enter Try.func51, Try.ntmps51
    go_wp2
    go_ret
    exact ⟨rfl, hb⟩
  · have h' : decide (0 ≤ x) = true := by simpa using h
    have hr : Hid ((!outB n x) = decide (x < (n : Int))) := by
      show _ = _; unfold outB
      rw [decide_eq_false h]
      by_cases h2 : (n : Int) ≤ x
      · rw [decide_eq_true h2, decide_eq_false (by omega)]; rfl
      · rw [decide_eq_false h2, decide_eq_true (by omega)]; rfl
    rw [hr.out]
    go_enter Try.func51, Try.ntmps51
    go_wp2
    go_ret
    exact ⟨rfl, hb⟩
theorem rnode_any (w : World) (ai ae al : Option Addr) (ni ci n ce nl cl : Nat) (x : Int) :
    Calls Try.prog 54 #[.agg #[.slice ai ni ci, .slice ae n ce, .slice al nl cl], .int .i64 x] w fun e w' => e = .returned (.bool (!outB n x)) ∧ Below w.heap.size w w' := by
  have hb := balloc (Below.refl w.heap.size w) (.cells #[.slice ai ni ci, .slice ae n ce, .slice al nl cl] TG)
  by_cases h : x < 0
  · have hr : Hid (outB n x = true) := by show _ = _; unfold outB; rw [decide_eq_true h]; rfl
    have h' : decide (0 ≤ x) = false := by simpa using h
    rw [hr.out]
    go_enter Try.func54, Try.ntmps54
    go_wp2
    go_ret
    exact ⟨rfl, hb⟩
  · have h' : decide (0 ≤ x) = true := by simpa using h
    have hr : Hid ((!outB n x) = decide (x < (n : Int))) := by
      show _ = _; unfold outB
      rw [decide_eq_false h]
      by_cases h2 : (n : Int) ≤ x
      · rw [decide_eq_true h2, decide_eq_false (by omega)]; rfl
      · rw [decide_eq_false h2, decide_eq_true (by omega)]; rfl
    rw [hr.out]
    go_enter Try.func54, Try.ntmps54
    go_wp2
    go_ret
    exact ⟨rfl, hb⟩
/-- the closure: whether an edge leads to no node -/
theorem eout_any (w : World) (ai ae al : Option Addr) (ni ci n ce nl cl b : Nat) (x y : Int) (hb : RowAt w b TG [.slice ai ni ci, .slice ae n ce, .slice al nl cl]) :
    Calls Try.prog 53 #[.agg #[.int .i64 x, .int .i64 y], .pointer (some ⟨b, 0, none⟩)] w fun e w' => e = .returned (.bool (outB n x)) ∧ Below w.heap.size w w' := by
  have N := Lib.hid (fun w => gnode_any w ai ae al ni ci n ce nl cl x)
  have hA := balloc (Below.refl w.heap.size w) (.cells #[.int .i64 x, .int .i64 y] TE)
  have hr := hb.below hA
  have c0 := hr.cell 0
  have c1 := hr.cell 1
  have c2 := hr.cell 2
  simp only [List.getElem?_cons_zero, List.getElem?_cons_succ] at c0 c1 c2
  clear hb hr
  generalize outB n x = o at N
  go_enter Try.func53, Try.ntmps53
  go_wp2_with fail
  refine (N.out _).mono ?_
  rintro e w1 ⟨rfl, hb1⟩
  go_wp2
  go_ret
  exact ⟨by cases o <;> rfl, btrans hA hb1⟩
theorem eidx_any (w : World) (ai ae al : Option Addr) (ni ci n ce nl cl b : Nat) (hb : RowAt w b TG [.slice ai ni ci, .slice ae n ce, .slice al nl cl]) (a : Option Addr) (c : Nat) (es : List PR) (h1 : PairsAt w a es) (hl : es.length ≤ 9223372036854775807) :
    Calls Try.prog 59 #[.slice a es.length c, .func (.func 53) #[] #[.pointer (some ⟨b, 0, none⟩)]] w fun e w' => ∃ k : Int, e = .returned (.int .i64 k) ∧ Hid (decide (0 ≤ k) = es.any fun e => outB n e.1) ∧ Below w.heap.size w w' := by
  have C := Lib.hid (fun wr (h : Below w.heap.size w wr) x y => eout_any wr ai ae al ni ci n ce nl cl b x y (hb.below h))
  clear hb
  go_enter Try.func59, Try.ntmps59
  go_wp2
  go_loopw [4, 8] (fun _ i wr => ∃ k : Nat, k ≤ es.length ∧ i = .int .i64 k ∧ Below w.heap.size w wr ∧ Hid ((es.take k).any (fun e => outB n e.1) = false)) (fun _ i _ => es.length - (intOf i).toNat)
  case atStart => exact ⟨0, Nat.zero_le _, rfl, Below.refl _ _, by simp [Hid]⟩
  case round =>
    obtain ⟨k, hk, rfl, hb, hall⟩ := hrel
    by_cases hlt : k < es.length
    · obtain ⟨bb, off, rfl, _, c0, c1⟩ := (h1.below hb).at k hlt
      obtain ⟨x, hx⟩ : ∃ x, x = es[k].1 := ⟨_, rfl⟩
      obtain ⟨y, hy⟩ : ∃ y, y = es[k].2 := ⟨_, rfl⟩
      rw [← hx] at c0
      rw [← hy] at c1
      have hst : Hid ((es.take (k + 1)).any (fun e => outB n e.1) = outB n x) := by
        show _ = _
        rw [List.take_add_one, List.getElem?_eq_getElem hlt, Option.toList_some, List.any_append, hall.out, hx]
        simp
      replace hx := Lib.hid hx
      replace hy := Lib.hid hy
      cases ho : outB n x with
      | true =>
        rw [ho] at hst
        have C1 := C.out wr hb x y
        rw [ho] at C1
        replace C1 := Lib.hid C1
        clear ho
        go_wp2_with fail
        refine C1.out.mono ?_
        rintro e w9 ⟨rfl, hb9⟩
        go_wp2
        go_ret
        refine ⟨k, rfl, ?_, btrans hb hb9⟩
        show _ = _
        rw [decide_eq_true (by omega)]
        symm
        have := hst.out
        rw [List.any_eq_true] at this ⊢
        obtain ⟨y, hy, hy2⟩ := this
        exact ⟨y, List.mem_of_mem_take hy, hy2⟩
      | false =>
        rw [ho] at hst
        have C1 := C.out wr hb x y
        rw [ho] at C1
        replace C1 := Lib.hid C1
        clear ho
        go_wp2_with fail
        refine C1.out.mono ?_
        rintro e w9 ⟨rfl, hb9⟩
        have hb9' := btrans hb hb9
        clear hb hb9
        go_wp2
        go_roundw
        case rel => exact ⟨k + 1, by omega, by go_num, hb9', hst⟩
        case measure => simp [intOf]; omega
    · obtain rfl : k = es.length := by omega
      go_wp2
      go_ret
      refine ⟨-1, rfl, ?_, hb⟩
      show _ = _
      have := hall.out
      rw [List.take_length] at this
      rw [this]
      rfl
theorem ehas_any (w : World) (ai ae al : Option Addr) (ni ci n ce nl cl b : Nat) (hb : RowAt w b TG [.slice ai ni ci, .slice ae n ce, .slice al nl cl]) (a : Option Addr) (c : Nat) (es : List PR) (h1 : PairsAt w a es) (hl : es.length ≤ 9223372036854775807) :
    Calls Try.prog 52 #[.slice a es.length c, .func (.func 53) #[] #[.pointer (some ⟨b, 0, none⟩)]] w fun e w' => e = .returned (.bool (es.any fun e => outB n e.1)) ∧ Below w.heap.size w w' := by
  have C := Lib.hid (eidx_any w ai ae al ni ci n ce nl cl b hb a c es h1 hl)
  generalize (es.any fun e => outB n e.1) = r at C
  clear h1 hl hb
  go_enter Try.func52, Try.ntmps52
  go_wp2_with fail
  refine C.out.mono ?_
  rintro e w1 ⟨k, rfl, hk, hb1⟩
  go_wp2
  go_ret
  exact ⟨ret_bool hk.out, hb1⟩
end Go.Proofs.Ytmlbjfaofppikaa
