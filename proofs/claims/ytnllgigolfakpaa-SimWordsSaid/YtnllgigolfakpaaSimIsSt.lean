/- Whether rows are a simulation: what is asked, and whether all rows are long enough. Conditions: Go's int. -/
import Derived.Test.YtnllgigolfakpaaSimDirSt
import Derived.Laws.CopyOwn
namespace Go.Proofs.Ytnllgigolfakpaa
open Go.RowKit

def fnOf (L : List (List Bool)) (i k : Nat) : Bool := (L.getD i []).getD k false
/-- rows that are a simulation -/
def IsP (A : AU) (L : List (List Bool)) : Prop := chk A = 0 ∧ L.length = A.nodes.length ∧ (∀ l ∈ L, l.length = A.nodes.length) ∧ IsSim A (fnOf L)
def badL (n : Nat) (l : List Bool) : Bool := l.length != n

theorem lenne_any (w : World) (b n : Nat) (l : List Bool) (a : Option Addr) (c : Nat) (hc : w.cell? ⟨b, 0, none⟩ = some (.int .i64 (n : Int))) :
    Calls Try.prog 27 #[.slice a l.length c, .pointer (some ⟨b, 0, none⟩)] w fun e w' => e = .returned (.bool (badL n l)) ∧ w = w' := by
  have hb : ((l.length : Int) != (n : Int)) = badL n l := by
    unfold badL
    by_cases h : l.length = n
    · subst h
      rw [bne_self_eq_false, bne_self_eq_false]
    · have h2 : ¬ (l.length : Int) = (n : Int) := by omega
      have e1 : ((l.length : Int) != (n : Int)) = true := bne_iff_ne.2 h2
      have e2 : (l.length != n) = true := bne_iff_ne.2 h
      rw [e1, e2]
  have hb2 : ((l.length : Int) == (n : Int)) = !badL n l := by
    rw [← hb]
    show _ = !(!_)
    rw [Bool.not_not]
  generalize badL n l = r at hb hb2
  go_enter Try.func27, Try.ntmps27
  go_wp2
  go_ret
  exact ⟨rfl, rfl⟩
theorem idxlen_any (w : World) (a : Option Addr) (c b n : Nat) (L : List (List Bool)) (h1 : RowsAt w a L) (hl : L.length ≤ 9223372036854775807) (hc : w.cell? ⟨b, 0, none⟩ = some (.int .i64 (n : Int))) :
    Calls Try.prog 36 #[.slice a L.length c, .func (.func 27) #[] #[.pointer (some ⟨b, 0, none⟩)]] w fun e w' => ∃ k : Int, e = .returned (.int .i64 k) ∧ Hid (decide (0 ≤ k) = L.any (badL n)) ∧ Quiet w w' := by
  have C := Lib.hid (fun m l a c => lenne_any (w.drewN m) b n l a c hc)
  go_enter Try.func36, Try.ntmps36
  clear hc
  go_wp2
  go_loopw [8] (fun i wr => ∃ k m : Nat, k ≤ L.length ∧ i = .int .i64 k ∧ wr = w.drewN m ∧ Hid ((L.take k).any (badL n) = false)) (fun i _ => L.length - (intOf i).toNat)
  case atStart => exact ⟨0, 0, Nat.zero_le _, rfl, rfl, by simp [Hid]⟩
  case round =>
    obtain ⟨k, m, hk, rfl, rfl, hall⟩ := hrel
    by_cases hlt : k < L.length
    · obtain ⟨bb, off, al, cl, hal, cx, _⟩ := h1.at k hlt
      have cx : (w.drewN m).cell? ⟨bb, off + k, none⟩ = some (.slice al L[k].length cl) := cx
      have hst : Hid ((L.take (k + 1)).any (badL n) = badL n L[k]) := by
        show _ = _
        rw [List.take_add_one, List.getElem?_eq_getElem hlt, Option.toList_some, List.any_append, hall.out]
        simp
      have C1 := C.out m L[k] al cl
      generalize L[k] = l at cx hst C1
      subst hal
      cases ho : badL n l with
      | true =>
        rw [ho] at hst C1
        replace C1 := Lib.hid C1
        clear ho
        go_wp2_with fail
        refine C1.out.mono ?_
        rintro e w9 ⟨rfl, rfl⟩
        go_wp2
        go_ret
        refine ⟨k, rfl, ?_, Quiet.one _ _⟩
        show _ = _
        rw [decide_eq_true (by omega)]
        symm
        rw [List.any_eq_true]
        have := hst.out
        rw [List.any_eq_true] at this
        obtain ⟨y, hy, hy2⟩ := this
        exact ⟨y, List.mem_of_mem_take hy, hy2⟩
      | false =>
        rw [ho] at hst C1
        replace C1 := Lib.hid C1
        clear ho
        go_wp2_with fail
        refine C1.out.mono ?_
        rintro e w9 ⟨rfl, rfl⟩
        go_wp2
        go_roundw
        case rel => exact ⟨k + 1, m, by omega, by go_num, rfl, hst⟩
        case measure => simp [intOf]; omega
    · obtain rfl : k = L.length := by omega
      go_wp2
      go_ret
      refine ⟨-1, rfl, ?_, Quiet.one _ _⟩
      show _ = _
      have := hall.out
      rw [List.take_length] at this
      rw [this]
      rfl
theorem haslen_any (w : World) (a : Option Addr) (c b n : Nat) (L : List (List Bool)) (h1 : RowsAt w a L) (hl : L.length ≤ 9223372036854775807) (hc : w.cell? ⟨b, 0, none⟩ = some (.int .i64 (n : Int))) :
    Calls Try.prog 26 #[.slice a L.length c, .func (.func 27) #[] #[.pointer (some ⟨b, 0, none⟩)]] w fun e w' => e = .returned (.bool (L.any (badL n))) ∧ Quiet w w' := by
  have C := Lib.hid (idxlen_any w a c b n L h1 hl hc)
  generalize L.any (badL n) = r at C
  clear h1 hl hc
  go_enter Try.func26, Try.ntmps26
  go_wp2_with fail
  refine C.out.mono ?_
  rintro e w1 ⟨k, rfl, hk, m, rfl⟩
  go_wp2
  go_ret
  exact ⟨ret_bool hk.out, Quiet.one _ _⟩
/-- a row is copied into a row of the block -/
def cpy (R : Nat → Nat → Bool) (i : Nat) (xs : List Bool) : Nat → Nat → Bool := fun i' k' => if i' = i ∧ k' < xs.length then xs.getD k' false else R i' k'
theorem mat_copy {w' : World} {g n i : Nat} {R : Nat → Nat → Bool} {cur : List Value} {xs : List Bool} (h2 : cur.length = n * 256) (h3 : ∀ i k, i < n → k < 256 → cur[i * 256 + k]? = some (.bool (R i k))) (hi : i < n) (hx : xs.length ≤ 256)
    (h : w'.heap[g]? = some (.cells (splice cur (i * 256) (xs.map .bool)).toArray TRow (0, 0))) : MatAt w' g n (cpy R i xs) := by
  have hl : (splice cur (i * 256) (xs.map .bool)).length = cur.length := by
    unfold splice
    simp
    omega
  refine ⟨_, h, by simp only [List.size_toArray]; omega, fun i' k' hi' hk' => ?_⟩
  have h5 := h3 i' k' hi' hk'
  have h6 : i' * 256 + k' < cur.length := by omega
  simp only [List.getElem?_toArray]
  by_cases he : i' = i ∧ k' < xs.length
  · obtain ⟨rfl, hk⟩ := he
    have e : cpy R i' xs i' k' = xs.getD k' false := by unfold cpy; rw [if_pos ⟨rfl, hk⟩]
    rw [e]
    unfold splice
    rw [List.getElem?_append_right (by simp; omega), List.getElem?_append_left (by simp; omega)]
    simp only [List.length_take, List.getElem?_map]
    rw [show i' * 256 + k' - min (i' * 256) cur.length = k' by omega, List.getElem?_eq_getElem hk]
    simp [List.getD, List.getElem?_eq_getElem hk]
  · have e : cpy R i xs i' k' = R i' k' := by unfold cpy; rw [if_neg he]
    rw [e, ← h5]
    unfold splice
    by_cases hb : i' * 256 + k' < i * 256
    · rw [List.getElem?_append_left (by simp; omega), List.getElem?_take, if_pos hb]
    · rw [List.getElem?_append_right (by simp; omega), List.getElem?_append_right (by simp; omega), List.getElem?_drop]
      simp only [List.length_take, List.length_map]
      have e7 : i * 256 + xs.length + (i' * 256 + k' - min (i * 256) cur.length - xs.length) = i' * 256 + k' := by omega
      rw [e7]
end Go.Proofs.Ytnllgigolfakpaa
