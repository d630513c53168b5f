/- Whether an automaton may be: auto.Check. Conditions: the bounds that an argument brings along. -/
import Derived.Test.YtmlbjfaofppikaaAuto
import Derived.Laws.ShiftsVar
namespace Go.Proofs.Ytmlbjfaofppikaa
open Go.RowKit

theorem RowAt.grow {w w' : World} {B T : Nat} {l : List Value} {row : Option Nat} (h : RowAt w B T l) (hg : w.grownBy w' row) (hne : row ≠ some B) : RowAt w' B T l := h.keep (hg.block B h.lt (fun e => hne e.symm))
theorem RowAt.drewN {w : World} {B T : Nat} {l : List Value} (h : RowAt w B T l) (n : Nat) : RowAt (w.drewN n) B T l := h
theorem RowAt.alloc {w : World} {B T : Nat} {l : List Value} (h : RowAt w B T l) (o : Obj) : RowAt (w.alloc o) B T l := h.below ((Below.refl _ _).alloc (Nat.le_refl _) o)
theorem bset {w w1 : World} {n j : Nat} {v : Value} (h : Below w.heap.size w w1) (hn : w.heap.size ≤ n) : Below w.heap.size w (w1.setCell ⟨n, j, none⟩ v) := h.setCell (by exact hn) v
theorem bold {W w1 : World} (hb : Below W.heap.size W w1) : (∀ b o, b < W.heap.size → w1.cell? ⟨b, o, none⟩ = W.cell? ⟨b, o, none⟩) ∧ (∀ b o, b < W.heap.size → w1.frozen? ⟨b, o, none⟩ = W.frozen? ⟨b, o, none⟩) :=
  ⟨fun b o h => hb.cell (p := ⟨b, o, none⟩) h, fun b o h => hb.frozen (p := ⟨b, o, none⟩) h⟩

/-- a number that is no node's -/
def outB (n : Nat) (x : Int) : Bool := decide (x < 0) || decide ((n : Int) ≤ x)
/-- the first fault of nodes -/
def chkN (n : Nat) (s : Nat) : List AN → Int
  | [] => 0
  | x :: l => if x.to.any (outB n) then 10 else if x.inn / 2 ^ s ≠ 0 then 3 else chkN n s l
/-- whether an automaton may be -/
def chk (A : AU) : Int :=
  if 256 < A.nodes.length ∨ 16 < A.sets then 11 else if A.sets < 0 then 10 else if A.init.any (outB A.nodes.length) then 10 else chkN A.nodes.length A.sets.toNat A.nodes

theorem out_any (w : World) (b : Nat) (n : Nat) (x : Int) (hc : w.cell? ⟨b, 0, none⟩ = some (.int .i64 n)) :
    Calls Try.prog 55 #[.int .i64 x, .pointer (some ⟨b, 0, none⟩)] w fun e w' => e = .returned (.bool (outB n x)) ∧ w = w' := by
  by_cases h : x < 0
  · have hr : Hid (outB n x = true) := by show _ = _; unfold outB; rw [decide_eq_true h]; rfl
    rw [hr.out]
    go_enter Try.func55, Try.ntmps55
    go_wp2
    go_ret
    exact ⟨rfl, rfl⟩
  · have h' : decide (x < 0) = false := decide_eq_false h
    have hr : Hid (outB n x = decide ((n : Int) ≤ x)) := by show _ = _; unfold outB; rw [h']; rfl
    rw [hr.out]
    go_enter Try.func55, Try.ntmps55
    go_wp2
    go_ret
    exact ⟨rfl, rfl⟩

theorem idxout_any (w : World) (a : Option Addr) (c b : Nat) (n : Nat) (xs : List Int) (h1 : NumsAt .i64 w a xs) (hl : xs.length ≤ 9223372036854775807) (hc : w.cell? ⟨b, 0, none⟩ = some (.int .i64 n)) :
    Calls Try.prog 60 #[.slice a xs.length c, .func (.func 55) #[] #[.pointer (some ⟨b, 0, none⟩)]] w fun e w' => ∃ k : Int, e = .returned (.int .i64 k) ∧ Hid (decide (0 ≤ k) = xs.any (outB n)) ∧ Quiet w w' := by
  have C := Lib.hid (fun m x => out_any (w.drewN m) b n x hc)
  go_enter Try.func60, Try.ntmps60
  clear hc
  go_wp2
  go_loopw [8] (fun i wr => ∃ k m : Nat, k ≤ xs.length ∧ i = .int .i64 k ∧ wr = w.drewN m ∧ Hid ((xs.take k).any (outB n) = false)) (fun i _ => xs.length - (intOf i).toNat)
  case atStart => exact ⟨0, 0, Nat.zero_le _, rfl, rfl, by simp [Hid]⟩
  case round =>
    obtain ⟨k, m, hk, rfl, rfl, hall⟩ := hrel
    by_cases hlt : k < xs.length
    · obtain ⟨bb, off, x, rfl, cx, hx⟩ := (h1.drewN m).at k hlt
      have hx2 : x = xs[k] := by rw [hx.out, List.getD_eq_getElem?_getD, List.getElem?_eq_getElem hlt]; rfl
      have hst : Hid ((xs.take (k + 1)).any (outB n) = outB n x) := by
        show _ = _
        rw [List.take_add_one, List.getElem?_eq_getElem hlt, Option.toList_some, List.any_append, hall.out, ← hx2]
        simp
      clear hx2
      cases ho : outB n x with
      | true =>
        rw [ho] at hst
        have C1 := C.out m x
        rw [ho] at C1
        replace C1 := Lib.hid C1
        clear ho
        go_wp2_with fail
        refine C1.out.mono ?_
        rintro e w9 ⟨rfl, rfl⟩
        go_wp2
        go_ret
        refine ⟨k, rfl, ?_, Quiet.one _ _⟩
        show _ = _
        rw [decide_eq_true (by omega)]
        symm
        rw [List.any_eq_true] 
        have := hst.out
        rw [List.any_eq_true] at this
        obtain ⟨y, hy, hy2⟩ := this
        exact ⟨y, List.mem_of_mem_take hy, hy2⟩
      | false =>
        rw [ho] at hst
        have C1 := C.out m x
        rw [ho] at C1
        replace C1 := Lib.hid C1
        clear ho
        go_wp2_with fail
        refine C1.out.mono ?_
        rintro e w9 ⟨rfl, rfl⟩
        go_wp2
        go_roundw
        case rel => exact ⟨k + 1, m, by omega, by go_num, rfl, hst⟩
        case measure => simp [intOf]; omega
    · obtain rfl : k = xs.length := by omega
      go_wp2
      go_ret
      refine ⟨-1, rfl, ?_, Quiet.one _ _⟩
      show _ = _
      have := hall.out
      rw [List.take_length] at this
      rw [this]
      rfl

theorem hasout_any (w : World) (a : Option Addr) (c b : Nat) (n : Nat) (xs : List Int) (h1 : NumsAt .i64 w a xs) (hl : xs.length ≤ 9223372036854775807) (hc : w.cell? ⟨b, 0, none⟩ = some (.int .i64 n)) :
    Calls Try.prog 56 #[.slice a xs.length c, .func (.func 55) #[] #[.pointer (some ⟨b, 0, none⟩)]] w fun e w' => e = .returned (.bool (xs.any (outB n))) ∧ Quiet w w' := by
  have C := Lib.hid (idxout_any w a c b n xs h1 hl hc)
  generalize xs.any (outB n) = r at C
  clear h1 hl hc
  go_enter Try.func56, Try.ntmps56
  go_wp2_with fail
  refine C.out.mono ?_
  rintro e w1 ⟨k, rfl, hk, m, rfl⟩
  go_wp2
  go_ret
  exact ⟨ret_bool hk.out, Quiet.one _ _⟩
end Go.Proofs.Ytmlbjfaofppikaa
