/- The guard. Conditions: the bounds that an argument brings along. -/
import Derived.Test.YtjacphcnanopjaaDoorAtO
import Derived.Test.YtjacphcnanopjaaDoorAtV
import Derived.Test.YtjacphcnanopjaaDoorAtX
namespace Go.Proofs.YtjacphcnanopjaaDoor
open Go.Shelf Go.RowKit
set_option linter.unusedVariables false
set_option linter.unusedSimpArgs false

def sumTo (xs : List AN) : Nat := (xs.map fun x => x.to.length).sum
theorem sumTo_snoc {xs : List AN} {k : Nat} (hk : k < xs.length) : sumTo (xs.take (k + 1)) = sumTo (xs.take k) + xs[k].to.length := by
  unfold sumTo
  rw [List.take_add_one, List.getElem?_eq_getElem hk, Option.toList_some, List.map_append, List.sum_append]
  simp
theorem sumTo_mem {xs : List AN} : ∀ x ∈ xs, x.to.length ≤ sumTo xs := by
  induction xs with
  | nil => intro x hx; simp at hx
  | cons y xs ih =>
    intro x hx
    simp only [sumTo, List.map_cons, List.sum_cons] at ih ⊢
    rcases List.mem_cons.1 hx with rfl | h
    · omega
    · have := ih x h; omega
theorem sumTo_le {xs : List AN} (h : ∀ x ∈ xs, x.to.length ≤ 17592186043904) : ∀ k, k ≤ 300 → sumTo (xs.take k) ≤ k * 17592186043904
  | 0, _ => by simp [sumTo]
  | k + 1, hk => by
    have ih := sumTo_le h k (by omega)
    by_cases hlt : k < xs.length
    · rw [sumTo_snoc hlt]
      have := h _ (List.getElem_mem hlt)
      omega
    · rw [List.take_of_length_le (by omega)] at ih ⊢
      exact Nat.le_trans ih (Nat.mul_le_mul_right _ (Nat.le_succ k))
def heavyB (A : AU) : Bool := decide (300 < A.nodes.length) || (decide (2000 < A.init.length) || decide (9000 < sumTo A.nodes))
theorem few_of {A : AU} (h : heavyB A = false) : AuFew A := by
  unfold heavyB at h
  simp only [Bool.or_eq_false_iff, decide_eq_false_iff_not] at h
  obtain ⟨h1, h2, h3⟩ := h
  exact ⟨by omega, by omega, fun x hx => by have := sumTo_mem x hx; omega⟩
set_option maxHeartbeats 2000000 in
theorem heavy_any (w : World) (ai an : Option Addr) (ci cn : Nat) (A : AU) (h : AuAt w ai A.init.length an A.nodes.length A) (ok : AuOk A) :
    Calls Tryd.prog 8 #[.agg #[.int .i64 A.sets, .slice ai A.init.length ci, .slice an A.nodes.length cn]] w fun e w' => e = .returned (.bool (heavyB A)) ∧ Below w.heap.size w w' := by
  obtain ⟨s, init, nodes⟩ := A
  have hn := h.nodes
  have hi1 := ok.initL
  have hn1 := ok.nodesL
  have hto : ∀ x ∈ nodes, x.to.length ≤ 17592186043904 := fun x hx => (ok.nodes x hx).2.2.2.1
  simp only at hn hi1 hn1 ⊢
  clear h ok
  have hsum := Lib.hid (fun k hk => sumTo_le hto k hk)
  have hto2 := Lib.hid hto
  generalize hr : heavyB ⟨s, init, nodes⟩ = r
  unfold heavyB at hr
  simp only at hr
  replace hr := Lib.hid hr
  replace hn := Lib.hid hn
  clear hto
  by_cases h300 : 300 < nodes.length
  · have hr2 : Hid (r = true) := by have := hr.out; rw [decide_eq_true h300] at this; exact this.symm
    obtain rfl := hr2.out
    have h300' : decide ((300 : Int) < (nodes.length : Int)) = true := by simp; omega
    have hb : Below w.heap.size w (w.alloc (.cells #[.int .i64 s, .slice ai init.length ci, .slice an nodes.length cn] AUT)) := balloc (Below.refl _ _) _
    replace hb := Lib.hid hb
    clear hr hr2 h300
    go_enter Tryd.func8, Tryd.ntmps8
    go_wp2
    go_ret
    exact ⟨rfl, hb.out⟩
  have h300' : decide ((300 : Int) < (nodes.length : Int)) = false := by simp; omega
  by_cases h2000 : 2000 < init.length
  · have hr2 : Hid (r = true) := by have := hr.out; rw [decide_eq_false h300, decide_eq_true h2000] at this; exact this.symm
    obtain rfl := hr2.out
    have h2000' : decide ((2000 : Int) < (init.length : Int)) = true := by simp; omega
    have hb : Below w.heap.size w (w.alloc (.cells #[.int .i64 s, .slice ai init.length ci, .slice an nodes.length cn] AUT)) := balloc (Below.refl _ _) _
    replace hb := Lib.hid hb
    clear hr hr2 h2000
    go_enter Tryd.func8, Tryd.ntmps8
    go_wp2
    go_ret
    exact ⟨rfl, hb.out⟩
  have h2000' : decide ((2000 : Int) < (init.length : Int)) = false := by simp; omega
  have hr2 : Hid (decide (9000 < sumTo nodes) = r) := by have := hr.out; rw [decide_eq_false h300, decide_eq_false h2000] at this; show _ = _; simpa using this
  clear hr
  go_enter Tryd.func8, Tryd.ntmps8
  go_wp2
  go_loopw [3, 4] (fun vv iv wr => ∃ (k v : Nat), k ≤ nodes.length ∧ iv = .int .i64 k ∧ vv = .int .i64 v ∧ Hid (v = sumTo (nodes.take k)) ∧ RowAt wr w.heap.size AUT [.int .i64 s, .slice ai init.length ci, .slice an nodes.length cn] ∧ Below w.heap.size w wr) (fun _ iv _ => nodes.length - (intOf iv).toNat)
  case atStart => exact ⟨0, 0, Nat.zero_le _, rfl, rfl, by simp [Hid, sumTo], RowAt.new #[.int .i64 s, .slice ai init.length ci, .slice an nodes.length cn] rfl, balloc (Below.refl _ _) _⟩
  case round =>
    obtain ⟨k, v, hk, rfl, rfl, hv, rA, hb⟩ := hrel
    have hs1 := hsum.out k (by omega)
    have hvb : v ≤ 1000000000000000000 := by have := hv.out; omega
    have a2 : wr.cell? ⟨w.heap.size, 2, none⟩ = some (.slice an nodes.length cn) := rA.cell 2
    have hla := rA.lt
    by_cases hlt : k < nodes.length
    · obtain ⟨b, off, hab, q0, q1, q2, at_, ct, q3, _⟩ := (hn.out.below hb).at k hlt
      have hx := hto2.out _ (List.getElem_mem hlt)
      have hst : Hid (v + nodes[k].to.length = sumTo (nodes.take (k + 1))) := by show _ = _; rw [sumTo_snoc hlt, hv.out]
      generalize nodes[k] = x at q0 q1 q2 q3 hx hst
      have hbl := World.block_lt_of_cell? wr _ q0
      simp only at hbl
      have hki : (k : Int) < (nodes.length : Int) := by omega
      subst hab
      clear hs1 hv
      go_wp2
      go_roundw
      case rel => exact ⟨k + 1, v + x.to.length, by omega, by go_num, by go_num, hst, rA, hb⟩
      case measure => simp [intOf]; omega
    · obtain rfl : k = nodes.length := by omega
      have hfin : Hid (r = decide ((9000 : Int) < (v : Int))) := by
        show _ = _
        have h1 := hv.out
        rw [List.take_length] at h1
        rw [← hr2.out, h1]
        congr 1
        apply propext
        omega
      have e := hfin.out
      subst e
      clear hs1 hv hfin hr2
      go_wp2
      go_ret
      exact ⟨rfl, hb⟩
end Go.Proofs.YtjacphcnanopjaaDoor
