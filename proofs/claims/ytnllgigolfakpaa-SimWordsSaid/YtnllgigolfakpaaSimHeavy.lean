/- The guard of the layer's laws; rows that are handed in. Conditions: the bounds that an argument brings along. -/
import Derived.Test.YtnllgigolfakpaaSimRows
import Derived.Test.YtnllgigolfakpaaAutoChk2
namespace Go.Proofs.Ytnllgigolfakpaa
open Go.RowKit

def heavyB (A : AU) : Bool := decide (16 < A.nodes.length) || (decide (40 < A.init.length) || A.nodes.any fun x => decide (40 < x.to.length))
theorem heavy_no {A : AU} (h : heavyB A = false) : A.nodes.length ≤ 16 ∧ A.init.length ≤ 40 ∧ ∀ x ∈ A.nodes, x.to.length ≤ 40 := by
  unfold heavyB at h
  simp only [Bool.or_eq_false_iff, decide_eq_false_iff_not, List.any_eq_false] at h
  obtain ⟨h1, h2, h3⟩ := h
  refine ⟨by omega, by omega, fun x hx => ?_⟩
  have := h3 x hx
  simp at this
  exact this
theorem heavy_any (w : World) (ai an : Option Addr) (ci cn : Nat) (A : AU) (h : AuAt w ai A.init.length an A.nodes.length A) (ok : AuOk A) :
    Calls Try.prog 8 #[.agg #[.int .i64 A.sets, .slice ai A.init.length ci, .slice an A.nodes.length cn]] w fun e w' => e = .returned (.bool (heavyB A)) ∧ Below w.heap.size w w' := by
  obtain ⟨s, init, nodes⟩ := A
  have hn := h.nodes
  simp only at hn ⊢
  obtain ⟨r, hr⟩ : ∃ r, r = heavyB ⟨s, init, nodes⟩ := ⟨_, rfl⟩
  rw [← hr]
  unfold heavyB at hr
  simp only at hr
  replace hr := Lib.hid hr
  have hb0 : Below w.heap.size w (w.alloc (.cells #[.int .i64 s, .slice ai init.length ci, .slice an nodes.length cn] AUT)) := balloc (Below.refl _ _) _
  have r1 : RowAt (w.alloc (.cells #[.int .i64 s, .slice ai init.length ci, .slice an nodes.length cn] AUT)) w.heap.size AUT [.int .i64 s, .slice ai init.length ci, .slice an nodes.length cn] := RowAt.new #[.int .i64 s, .slice ai init.length ci, .slice an nodes.length cn] rfl
  have c2 : (w.alloc (.cells #[.int .i64 s, .slice ai init.length ci, .slice an nodes.length cn] AUT)).cell? ⟨w.heap.size, 2, none⟩ = some (.slice an nodes.length cn) := r1.cell 2
  have c1 : (w.alloc (.cells #[.int .i64 s, .slice ai init.length ci, .slice an nodes.length cn] AUT)).cell? ⟨w.heap.size, 1, none⟩ = some (.slice ai init.length ci) := r1.cell 1
  clear h ok
  by_cases h1 : 16 < nodes.length
  · have hr2 : Hid (r = true) := by show _ = _; rw [hr.out, decide_eq_true h1]; rfl
    obtain rfl := hr2.out
    have h1' : (16 : Int) < (nodes.length : Int) := by omega
    clear hr hr2 h1
    go_enter Try.func8, Try.ntmps8
    go_wp2
    go_ret
    exact ⟨rfl, hb0⟩
  have h1' : decide ((16 : Int) < (nodes.length : Int)) = false := by simp; omega
  by_cases h2 : 40 < init.length
  · have hr2 : Hid (r = true) := by show _ = _; rw [hr.out, decide_eq_true h2]; simp
    obtain rfl := hr2.out
    have h2' : (40 : Int) < (init.length : Int) := by omega
    clear hr hr2 h2 h1
    go_enter Try.func8, Try.ntmps8
    go_wp2
    go_ret
    exact ⟨rfl, hb0⟩
  have h2' : decide ((40 : Int) < (init.length : Int)) = false := by simp; omega
  replace hr : Hid (r = nodes.any fun x => decide (40 < x.to.length)) := by
    show _ = _
    rw [hr.out, decide_eq_false h1, decide_eq_false h2]
    rfl
  replace r1 := Lib.hid r1
  replace hb0 := Lib.hid hb0
  clear h1 h2
  go_enter Try.func8, Try.ntmps8
  go_wp2
  go_loopw [2, 3] (fun bv iv wr => ∃ k : Nat, k ≤ nodes.length ∧ iv = .int .i64 k ∧ bv = .bool false ∧ wr = w.alloc (.cells #[.int .i64 s, .slice ai init.length ci, .slice an nodes.length cn] AUT) ∧ Hid ((nodes.take k).any (fun x => decide (40 < x.to.length)) = false)) (fun _ iv _ => nodes.length - (intOf iv).toNat)
  case atStart => exact ⟨0, Nat.zero_le _, rfl, rfl, rfl, by simp [Hid]⟩
  case round =>
    obtain ⟨k, hk, rfl, rfl, rfl, hall⟩ := hrel
    by_cases hlt : k < nodes.length
    · obtain ⟨b, off, hab, q0, q1, q2, at_, ct, q3, _⟩ := (hn.below hb0.out).at k hlt
      have hst : Hid ((nodes.take (k + 1)).any (fun x => decide (40 < x.to.length)) = decide (40 < nodes[k].to.length)) := by
        show _ = _
        rw [List.take_add_one, List.getElem?_eq_getElem hlt, Option.toList_some, List.any_append, hall.out]
        simp
      have hmm : Hid (decide (40 < nodes[k].to.length) = true → r = true) := fun e => by
        rw [hr.out, List.any_eq_true]
        exact ⟨_, List.getElem_mem hlt, e⟩
      generalize nodes[k] = x at q0 q1 q2 q3 hst hmm
      have hkn : (k : Int) < (nodes.length : Int) := by omega
      have hbl := World.block_lt_of_cell? _ _ q0
      simp only at hbl
      by_cases hx : 40 < x.to.length
      · have hx' : (40 : Int) < (x.to.length : Int) := by omega
        have hr2 : Hid (r = true) := hmm.out (decide_eq_true hx)
        obtain rfl := hr2.out
        subst hab
        clear hx hr hr2 hmm hst q0 q1 q2
        go_wp2
        go_ret
        exact ⟨rfl, hb0.out⟩
      · have hx' : decide ((40 : Int) < (x.to.length : Int)) = false := by simp; omega
        rw [decide_eq_false hx] at hst
        have hk300 : (k : Int) < 1000 := by
          have : nodes.length ≤ 16 := by simp at h1'; omega
          omega
        subst hab
        clear hx hmm q0 q1 q2
        go_wp2
        go_roundw
        case rel => exact ⟨k + 1, by omega, by go_num, by first | exact True.intro | rfl, by first | exact True.intro | rfl, hst⟩
        case measure => simp [intOf]; omega
    · obtain rfl : k = nodes.length := by omega
      have hr2 : Hid (r = false) := by
        have h3 := hall.out
        rw [List.take_length] at h3
        show _ = _
        rw [hr.out, h3]
      obtain rfl := hr2.out
      clear hr hr2
      go_wp2
      go_ret
      exact ⟨rfl, hb0.out⟩

/-- rows that are handed in -/
theorem opens_rows : Opens Try.prog 29 (rSl 1 24 (rSl 1 1 rBool)) := opens_slice Try.underlying29 (by kernel_rfl) (by kernel_rfl) (by decide) (opens_slice Try.underlying32 (by kernel_rfl) (by kernel_rfl) (by decide) (opens_bool Try.underlying4))
theorem BoolsAt.of_rSl {w : World} {v : Value} {xs : List Bool} (h : rSl 1 1 rBool w [v] xs) : ∃ a cap, v = .slice a xs.length cap ∧ xs.length ≤ 140737488351232 ∧ BoolsAt w a xs := by
  obtain ⟨a, cap, h1, h2, h3, h4, h5⟩ := h
  refine ⟨a, cap, by simpa using h1, by have h6 : xs.length * 1 ≤ 140737488351232 := h2; omega, fun h0 => ?_⟩
  obtain ⟨b, off, ha, hc⟩ := h5 h0
  refine ⟨b, off, ha, fun i hi => ?_⟩
  obtain ⟨vs, _, hv, hr⟩ := hc i hi
  have := hv 0 (by omega)
  have hr' : vs = [.bool xs[i]] := hr
  rw [hr'] at this
  simpa [List.getD, List.getElem?_eq_getElem hi] using this
theorem RowsAt.of_rSl {w : World} {v : Value} {L : List (List Bool)} (h : rSl 1 24 (rSl 1 1 rBool) w [v] L) : ∃ a cap, v = .slice a L.length cap ∧ RowsAt w a L ∧ ∀ l ∈ L, l.length ≤ 140737488351232 := by
  obtain ⟨a, cap, h1, h2, h3, h4, h5⟩ := h
  refine ⟨a, cap, by simpa using h1, fun h0 => ?_, fun l hl => ?_⟩
  · obtain ⟨b, off, ha, hc⟩ := h5 h0
    refine ⟨b, off, ha, fun i hi => ?_⟩
    obtain ⟨vs, hl, hv, hr⟩ := hc i hi
    obtain ⟨u, rfl⟩ : ∃ u, vs = [u] := by
      match vs, hl with
      | [u], _ => exact ⟨u, rfl⟩
    obtain ⟨ai, ci, rfl, _, hB⟩ := BoolsAt.of_rSl hr
    exact ⟨ai, ci, by simpa using hv 0 (by omega), hB⟩
  · obtain ⟨i, hi, rfl⟩ := List.mem_iff_getElem.1 hl
    obtain ⟨b, off, ha, hc⟩ := h5 (by omega)
    obtain ⟨vs, hl, hv, hr⟩ := hc i hi
    obtain ⟨u, rfl⟩ : ∃ u, vs = [u] := by
      match vs, hl with
      | [u], _ => exact ⟨u, rfl⟩
    obtain ⟨_, _, _, h6, _⟩ := BoolsAt.of_rSl hr
    exact h6
end Go.Proofs.Ytnllgigolfakpaa
