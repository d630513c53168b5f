/- A relation as rows of an array of the call's own; whether a node can go on as another one. Conditions: the bounds of an automaton that may be. -/
import Derived.Test.YtnllgigolfakpaaSimPlain
import Derived.Test.YtnllgigolfakpaaAutoChk
import Derived.Test.YtnllgigolfakpaaMem
namespace Go.Proofs.Ytnllgigolfakpaa
open Go.RowKit

abbrev TRow : Nat := 49
/-- n rows of 256 bools in a block -/
def MatAt (w : World) (g n : Nat) (R : Nat → Nat → Bool) : Prop := ∃ cur : Array Value, w.heap[g]? = some (.cells cur TRow) ∧ cur.size = n * 256 ∧ ∀ i k, i < n → k < 256 → cur[i * 256 + k]? = some (.bool (R i k))
section
variable {w w' : World} {g n : Nat} {R : Nat → Nat → Bool}
theorem MatAt.lt (h : MatAt w g n R) : g < w.heap.size := by
  obtain ⟨cur, h1, _⟩ := h
  exact (Array.getElem?_eq_some_iff.1 h1).1
theorem MatAt.cell (h : MatAt w g n R) {i k : Nat} (hi : i < n) (hk : k < 256) : w.cell? ⟨g, i * 256 + k, none⟩ = some (.bool (R i k)) := by
  obtain ⟨cur, h1, _, h3⟩ := h
  simp [World.cell?, h1, h3 i k hi hk]
theorem MatAt.free (h : MatAt w g n R) (j : Nat) : w.frozen? ⟨g, j, none⟩ = false := by
  obtain ⟨cur, h1, _⟩ := h
  simp [World.frozen?, h1]
theorem MatAt.keep (h : MatAt w g n R) (hk : w'.heap[g]? = w.heap[g]?) : MatAt w' g n R := by
  obtain ⟨cur, h1, h2⟩ := h
  exact ⟨cur, hk.trans h1, h2⟩
theorem MatAt.below (h : MatAt w g n R) (hb : Below w.heap.size w w') : MatAt w' g n R := h.keep (hb.block g h.lt)
theorem MatAt.congr {S : Nat → Nat → Bool} (h : MatAt w g n R) (hs : ∀ i k, i < n → k < 256 → S i k = R i k) : MatAt w g n S := by
  obtain ⟨cur, h1, h2, h3⟩ := h
  exact ⟨cur, h1, h2, fun i k hi hk => by rw [hs i k hi hk]; exact h3 i k hi hk⟩
theorem MatAt.set (h : MatAt w g n R) {i k : Nat} (hi : i < n) (hk : k < 256) (b : Bool) : MatAt (w.setCell ⟨g, i * 256 + k, none⟩ (.bool b)) g n (upd R i k b) := by
  obtain ⟨cur, h1, h2, h3⟩ := h
  have hlt := (Array.getElem?_eq_some_iff.1 h1).1
  refine ⟨cur.set! (i * 256 + k) (.bool b), ?_, by simp [h2], fun i' k' hi' hk' => ?_⟩
  · simp [World.setCell, Array.getElem?_modify, h1]
  · by_cases he : i' = i ∧ k' = k
    · obtain ⟨rfl, rfl⟩ := he
      rw [upd_same]
      have : i' * 256 + k' < cur.size := by rw [h2]; omega
      simp [Array.getElem?_setIfInBounds, this]
    · rw [upd_other R b he]
      have : i * 256 + k ≠ i' * 256 + k' := by omega
      rw [Array.set!_eq_setIfInBounds, Array.getElem?_setIfInBounds_ne this]
      exact h3 i' k' hi' hk'
end

/-! whether one can go on as another one -/
theorem fol1_any (w : World) (b5 b10 g n c : Nat) (R : Nat → Nat → Bool) (t u : Nat) (ht : t < n) (hu : u < n) (hn : n ≤ 256) (h5 : w.cell? ⟨b5, 0, none⟩ = some (.slice (some ⟨g, 0, none⟩) n c)) (h10 : w.cell? ⟨b10, 0, none⟩ = some (.int .i64 (t : Int))) (hm : MatAt w g n R) :
    Calls Try.prog 34 #[.int .i64 (u : Int), .pointer (some ⟨b5, 0, none⟩), .pointer (some ⟨b10, 0, none⟩)] w fun e w' => e = .returned (.bool (R t u)) ∧ w = w' := by
  have hc := hm.cell ht (show u < 256 by omega)
  have h1 : (t : Int) < (n : Int) := by omega
  have h2 : (u : Int) < 256 := by omega
  generalize R t u = r at hc
  clear hm hn
  go_enter Try.func34, Try.ntmps34
  go_wp2
  go_ret
  exact ⟨rfl, rfl⟩
theorem idxfol_any (w : World) (a : Option Addr) (c b5 b10 g n cr : Nat) (R : Nat → Nat → Bool) (t : Nat) (ht : t < n) (hn : n ≤ 256) (xs : List Int) (hxs : ∀ x ∈ xs, 0 ≤ x ∧ x < (n : Int)) (h1 : NumsAt .i64 w a xs) (hl : xs.length ≤ 9223372036854775807)
    (h5 : w.cell? ⟨b5, 0, none⟩ = some (.slice (some ⟨g, 0, none⟩) n cr)) (h10 : w.cell? ⟨b10, 0, none⟩ = some (.int .i64 (t : Int))) (hm : MatAt w g n R) :
    Calls Try.prog 40 #[.slice a xs.length c, .func (.func 34) #[] #[.pointer (some ⟨b5, 0, none⟩), .pointer (some ⟨b10, 0, none⟩)]] w fun e w' => ∃ k : Int, e = .returned (.int .i64 k) ∧ Hid (decide (0 ≤ k) = xs.any (fun u => R t u.toNat)) ∧ Quiet w w' := by
  have C := Lib.hid (fun m u (hu : u < n) => fol1_any (w.drewN m) b5 b10 g n cr R t u ht hu hn h5 h10 hm)
  replace hxs := Lib.hid hxs
  go_enter Try.func40, Try.ntmps40
  clear h5 h10 hm ht hn
  go_wp2
  go_loopw [8] (fun i wr => ∃ k m : Nat, k ≤ xs.length ∧ i = .int .i64 k ∧ wr = w.drewN m ∧ Hid ((xs.take k).any (fun u => R t u.toNat) = false)) (fun i _ => xs.length - (intOf i).toNat)
  case atStart => exact ⟨0, 0, Nat.zero_le _, rfl, rfl, by simp [Hid]⟩
  case round =>
    obtain ⟨k, m, hk, rfl, rfl, hall⟩ := hrel
    by_cases hlt : k < xs.length
    · obtain ⟨bb, off, x, rfl, cx, hx⟩ := (h1.drewN m).at k hlt
      have hx2 : x = xs[k] := by rw [hx.out, List.getD_eq_getElem?_getD, List.getElem?_eq_getElem hlt]; rfl
      obtain ⟨h0x, hxn⟩ := hxs.out x (by rw [hx2]; exact List.getElem_mem hlt)
      have hst : Hid ((xs.take (k + 1)).any (fun u => R t u.toNat) = R t x.toNat) := by
        show _ = _
        rw [List.take_add_one, List.getElem?_eq_getElem hlt, Option.toList_some, List.any_append, hall.out, ← hx2]
        simp
      clear hx2 hx
      obtain ⟨u, rfl⟩ := Int.eq_ofNat_of_zero_le h0x
      rw [Int.toNat_natCast] at hst
      have C1 := C.out m u (by omega)
      cases ho : R t u with
      | true =>
        rw [ho] at hst C1
        replace C1 := Lib.hid C1
        clear ho
        go_wp2_with fail
        refine C1.out.mono ?_
        rintro e w9 ⟨rfl, rfl⟩
        go_wp2
        go_ret
        refine ⟨k, rfl, ?_, Quiet.one _ _⟩
        show _ = _
        rw [decide_eq_true (by omega)]
        symm
        rw [List.any_eq_true]
        have := hst.out
        rw [List.any_eq_true] at this
        obtain ⟨y, hy, hy2⟩ := this
        exact ⟨y, List.mem_of_mem_take hy, hy2⟩
      | false =>
        rw [ho] at hst C1
        replace C1 := Lib.hid C1
        clear ho
        go_wp2_with fail
        refine C1.out.mono ?_
        rintro e w9 ⟨rfl, rfl⟩
        go_wp2
        go_roundw
        case rel => exact ⟨k + 1, m, by omega, by go_num, rfl, hst⟩
        case measure => simp [intOf]; omega
    · obtain rfl : k = xs.length := by omega
      go_wp2
      go_ret
      refine ⟨-1, rfl, ?_, Quiet.one _ _⟩
      show _ = _
      have := hall.out
      rw [List.take_length] at this
      rw [this]
      rfl
theorem hasfol_any (w : World) (a : Option Addr) (c b5 b10 g n cr : Nat) (R : Nat → Nat → Bool) (t : Nat) (ht : t < n) (hn : n ≤ 256) (xs : List Int) (hxs : ∀ x ∈ xs, 0 ≤ x ∧ x < (n : Int)) (h1 : NumsAt .i64 w a xs) (hl : xs.length ≤ 9223372036854775807)
    (h5 : w.cell? ⟨b5, 0, none⟩ = some (.slice (some ⟨g, 0, none⟩) n cr)) (h10 : w.cell? ⟨b10, 0, none⟩ = some (.int .i64 (t : Int))) (hm : MatAt w g n R) :
    Calls Try.prog 33 #[.slice a xs.length c, .func (.func 34) #[] #[.pointer (some ⟨b5, 0, none⟩), .pointer (some ⟨b10, 0, none⟩)]] w fun e w' => e = .returned (.bool (xs.any (fun u => R t u.toNat))) ∧ Quiet w w' := by
  have C := Lib.hid (idxfol_any w a c b5 b10 g n cr R t ht hn xs hxs h1 hl h5 h10 hm)
  generalize xs.any (fun u => R t u.toNat) = r at C
  clear h1 hl h5 h10 hm hxs ht hn
  go_enter Try.func33, Try.ntmps33
  go_wp2_with fail
  refine C.out.mono ?_
  rintro e w1 ⟨k, rfl, hk, m, rfl⟩
  go_wp2
  go_ret
  exact ⟨ret_bool hk.out, Quiet.one _ _⟩
end Go.Proofs.Ytnllgigolfakpaa
