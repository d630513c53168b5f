/- The chapter's example, and the guard. Conditions: the bounds that an argument brings along. -/
import Derived.Test.YtefplklkhcpchaaDegOneW
import Derived.Test.YtefplklkhcpchaaDegNonePlain
namespace Go.Proofs.Ytefplklkhcpchaa
open Go.RowKit

theorem exOk : AuOk exA := ⟨by decide, by intro x hx; simp [exA] at hx; subst hx; decide, by decide, by decide, by intro x hx; simp [exA] at hx; subst hx; refine ⟨by decide, by decide, by decide, by decide, ?_⟩; intro t ht; simp at ht; subst ht; decide⟩

set_option maxHeartbeats 2000000 in
theorem lives_true (w : World) : Calls Try.prog 9 #[] w fun e w' => e = .returned (.bool true) ∧ Below w.heap.size w w' := by
  obtain ⟨w3, hw3⟩ : ∃ w3, w3 = ((w.alloc (.cells #[.int .i64 0] 3)).alloc (.cells #[.int .i64 0] 3)).alloc (.cells #[.int .u64 0, .int .u64 0, .int .u64 3, .slice (some ⟨w.heap.size + 1, 0, none⟩) 1 1] TN) := ⟨_, rfl⟩
  have hb3 : Below w.heap.size w w3 := by rw [hw3]; exact balloc (balloc (balloc (Below.refl _ _) _) _) _
  have n0 : NumsAt .i64 w3 (some ⟨w.heap.size, 0, none⟩) [0] := by
    rw [hw3]
    exact ((nums_new rfl #[.int .i64 0] [0] rfl).alloc _).alloc _
  have n1 : NumsAt .i64 w3 (some ⟨w.heap.size + 1, 0, none⟩) [0] := by
    rw [hw3]
    exact (nums_new (by simp) #[.int .i64 0] [0] rfl).alloc _
  have r2 : RowAt w3 (w.heap.size + 2) TN [.int .u64 0, .int .u64 0, .int .u64 3, .slice (some ⟨w.heap.size + 1, 0, none⟩) 1 1] := by
    rw [hw3]
    exact RowAt.new #[.int .u64 0, .int .u64 0, .int .u64 3, .slice (some ⟨w.heap.size + 1, 0, none⟩) 1 1] (by simp)
  have hAt : AuAt w3 (some ⟨w.heap.size, 0, none⟩) exA.init.length (some ⟨w.heap.size + 2, 0, none⟩) exA.nodes.length exA := by
    refine ⟨rfl, rfl, n0, fun _ => ⟨w.heap.size + 2, 0, rfl, fun i hi => ?_⟩⟩
    have hi0 : i = 0 := by simp [exA] at hi; exact hi
    subst hi0
    exact ⟨r2.cell 0, r2.cell 1, r2.cell 2, some ⟨w.heap.size + 1, 0, none⟩, 1, r2.cell 3, n1⟩
  have C := one_any w3 (some ⟨w.heap.size, 0, none⟩) (some ⟨w.heap.size + 2, 0, none⟩) 1 1 exA hAt exOk (by decide)
  rw [one_ex] at C
  replace C := Lib.hid C
  have HW := Lib.hid hw3
  clear n0 n1 r2 hAt hw3
  go_enter Try.func9, Try.ntmps9
  go_wp2_with fail
  rw [← HW.out]
  refine C.out.mono ?_
  rintro e w4 ⟨a0, c0, ao, co, rfl, _, hn, hb4⟩
  have hbw := btrans hb3 hb4
  obtain ⟨b, off, hab, hno⟩ := hn (by decide)
  subst hab
  have q0 := (hno 0 (by decide)).2.2.1
  have q1 := (hno 1 (by decide)).2.2.1
  have hbl := (hno 0 (by decide)).lt
  simp only [List.getElem_cons_zero, List.getElem_cons_succ, Nat.zero_mul, Nat.add_zero, Nat.one_mul] at q0 q1
  clear hn hno hb4 hb3 C HW
  go_wp2
  go_ret
  exact ⟨rfl, balloc hbw _⟩

def sumTo (xs : List AN) : Nat := (xs.map fun x => x.to.length).sum
theorem sumTo_snoc {xs : List AN} {k : Nat} (hk : k < xs.length) : sumTo (xs.take (k + 1)) = sumTo (xs.take k) + xs[k].to.length := by
  unfold sumTo
  rw [List.take_add_one, List.getElem?_eq_getElem hk, Option.toList_some, List.map_append, List.sum_append]
  simp
def farB (A : AU) : Bool := decide (40 < A.nodes.length) || decide (1500 < A.nodes.length + A.init.length + sumTo A.nodes)
theorem sumTo_mem {xs : List AN} : ∀ x ∈ xs, x.to.length ≤ sumTo xs := by
  induction xs with
  | nil => intro x hx; simp at hx
  | cons y xs ih =>
    intro x hx
    simp only [sumTo, List.map_cons, List.sum_cons] at ih ⊢
    rcases List.mem_cons.1 hx with rfl | h
    · omega
    · have := ih x h; omega
theorem sumTo_le {xs : List AN} (h : ∀ x ∈ xs, x.to.length ≤ 17592186043904) : ∀ k, k ≤ 40 → sumTo (xs.take k) ≤ k * 17592186043904
  | 0, _ => by simp [sumTo]
  | k + 1, hk => by
    have ih := sumTo_le h k (by omega)
    by_cases hlt : k < xs.length
    · rw [sumTo_snoc hlt]
      have := h _ (List.getElem_mem hlt)
      omega
    · rw [List.take_of_length_le (by omega)] at ih ⊢
      exact Nat.le_trans ih (Nat.mul_le_mul_right _ (Nat.le_succ k))

set_option maxHeartbeats 2000000 in
theorem far_any (w : World) (ai an : Option Addr) (ci cn : Nat) (A : AU) (h : AuAt w ai A.init.length an A.nodes.length A) (ok : AuOk A) :
    Calls Try.prog 8 #[.agg #[.int .i64 A.sets, .slice ai A.init.length ci, .slice an A.nodes.length cn]] w fun e w' => e = .returned (.bool (farB A)) ∧ Below w.heap.size w w' := by
  obtain ⟨s, init, nodes⟩ := A
  have hn := h.nodes
  have hi1 := ok.initL
  have hn1 := ok.nodesL
  have hto : ∀ x ∈ nodes, x.to.length ≤ 17592186043904 := fun x hx => (ok.nodes x hx).2.2.2.1
  simp only at hn hi1 hn1 ⊢
  clear h ok
  have hsum := Lib.hid (fun k hk => sumTo_le hto k hk)
  have hto2 := Lib.hid hto
  generalize hr : farB ⟨s, init, nodes⟩ = r
  unfold farB at hr
  simp only at hr
  replace hr := Lib.hid hr
  replace hn := Lib.hid hn
  clear hto
  by_cases h40 : 40 < nodes.length
  · have hr2 : Hid (r = true) := by have := hr.out; rw [decide_eq_true h40] at this; exact this.symm
    obtain rfl := hr2.out
    have h40' : (40 : Int) < (nodes.length : Int) := by omega
    clear hr hr2 h40
    go_enter Try.func8, Try.ntmps8
    go_wp2
    go_loopw [3, 16] (fun vv iv wr => ∃ (k : Nat) (v : Int), k ≤ nodes.length ∧ iv = .int .i64 k ∧ vv = .int .i64 v ∧ RowAt wr w.heap.size AUT [.int .i64 s, .slice ai init.length ci, .slice an nodes.length cn] ∧ Below w.heap.size w wr) (fun _ iv _ => nodes.length - (intOf iv).toNat)
    case atStart => exact ⟨0, _, Nat.zero_le _, rfl, rfl, RowAt.new #[.int .i64 s, .slice ai init.length ci, .slice an nodes.length cn] rfl, balloc (Below.refl _ _) _⟩
    case round =>
      obtain ⟨k, v, hk, rfl, rfl, rA, hb⟩ := hrel
      by_cases hlt : k < nodes.length
      · obtain ⟨b, off, hab, q0, q1, q2, at_, ct, q3, _⟩ := (hn.out.below hb).at k hlt
        generalize nodes[k] = x at q0 q1 q2 q3
        have hbl := World.block_lt_of_cell? wr _ q0
        simp only at hbl
        subst hab
        go_wp2
        go_roundw
        case rel => exact ⟨k + 1, _, by omega, by go_num, rfl, rA.alloc _, balloc hb _⟩
        case measure => simp [intOf]; omega
      · obtain rfl : k = nodes.length := by omega
        have a2 : wr.cell? ⟨w.heap.size, 2, none⟩ = some (.slice an nodes.length cn) := rA.cell 2
        go_wp2
        go_ret
        exact ⟨rfl, hb⟩
  · have h40' : decide ((40 : Int) < (nodes.length : Int)) = false := by simp; omega
    have hr2 : Hid (decide (1500 < nodes.length + init.length + sumTo nodes) = r) := by have := hr.out; rw [decide_eq_false h40] at this; show _ = _; simpa using this
    clear hr
    go_enter Try.func8, Try.ntmps8
    go_wp2
    go_loopw [3, 16] (fun vv iv wr => ∃ (k v : Nat), k ≤ nodes.length ∧ iv = .int .i64 k ∧ vv = .int .i64 v ∧ Hid (v = nodes.length + init.length + sumTo (nodes.take k)) ∧ RowAt wr w.heap.size AUT [.int .i64 s, .slice ai init.length ci, .slice an nodes.length cn] ∧ Below w.heap.size w wr) (fun _ iv _ => nodes.length - (intOf iv).toNat)
    case atStart => exact ⟨0, nodes.length + init.length, Nat.zero_le _, rfl, by simp, by simp [Hid, sumTo], RowAt.new #[.int .i64 s, .slice ai init.length ci, .slice an nodes.length cn] rfl, balloc (Below.refl _ _) _⟩
    case round =>
      obtain ⟨k, v, hk, rfl, rfl, hv, rA, hb⟩ := hrel
      have hs1 := hsum.out k (by omega)
      have hvb : v ≤ 1000000000000000000 := by have := hv.out; omega
      by_cases hlt : k < nodes.length
      · obtain ⟨b, off, hab, q0, q1, q2, at_, ct, q3, _⟩ := (hn.out.below hb).at k hlt
        have hx := hto2.out _ (List.getElem_mem hlt)
        have hst : Hid (v + nodes[k].to.length = nodes.length + init.length + sumTo (nodes.take (k + 1))) := by show _ = _; rw [sumTo_snoc hlt, hv.out]; omega
        generalize nodes[k] = x at q0 q1 q2 q3 hx hst
        have hbl := World.block_lt_of_cell? wr _ q0
        simp only at hbl
        subst hab
        clear hs1 hv
        go_wp2
        go_roundw
        case rel => exact ⟨k + 1, v + x.to.length, by omega, by go_num, by go_num, hst, rA.alloc _, balloc hb _⟩
        case measure => simp [intOf]; omega
      · obtain rfl : k = nodes.length := by omega
        have a2 : wr.cell? ⟨w.heap.size, 2, none⟩ = some (.slice an nodes.length cn) := rA.cell 2
        have hfin : Hid (r = decide ((1500 : Int) < (v : Int))) := by
          show _ = _
          have h1 := hv.out
          rw [List.take_length] at h1
          rw [← hr2.out, h1]
          congr 1
          apply propext
          omega
        have e := hfin.out
        subst e
        clear hs1 hv hfin hr2
        go_wp2
        go_ret
        exact ⟨rfl, hb⟩
end Go.Proofs.Ytefplklkhcpchaa
