/- The document's walks through a graph: is it a node, which are goals, which are reached. Conditions: the bounds of a graph. -/
import Derived.Test.YtnllgigolfakpaaGraph
import Derived.Deep.RegionHeld3
import Derived.WalkMore
namespace Go.Proofs.Ytnllgigolfakpaa
open Go.RowKit

section
variable (i1 : Option Addr) (m1 c1 : Nat) (ae : Option Addr) (n ce : Nat) (i2 : Option Addr) (m2 c2 : Nat)
theorem node_yes (w : World) (v : Nat) (hv : v < n) :
    Calls Try.prog 46 #[GV i1 m1 c1 ae n ce i2 m2 c2, .int .i64 (v : Int)] w fun e w' => e = .returned (.bool true) ∧ Below w.heap.size w w' := by
  have h1 : (v : Int) < (n : Int) := by omega
  have h2 : decide (0 ≤ (v : Int)) = true := by simp
  clear hv
  go_enter Try.func46, Try.ntmps46
  go_wp2
  go_ret
  exact ⟨rfl, balloc (Below.refl _ _) _⟩
theorem filt_snoc (g : Nat → Bool) (k : Nat) : (List.range (k + 1)).filter g = (List.range k).filter g ++ if g k = true then [k] else [] := by
  rw [List.range_succ, List.filter_append]
  simp [List.filter_cons]
theorem goals_any (w : World) (ag : Option Addr) (cg : Nat) (gl : List Bool) (hg : BsAt w ag gl) (hl : gl.length = n) (hn : n ≤ 1000000) :
    Calls Try.prog 45 #[GV i1 m1 c1 ae n ce i2 m2 c2, .slice ag n cg] w fun e w' => ∃ a c, e = .returned (.slice a ((List.range n).filter fun v => gl.getD v false).length c) ∧ NumsAt .i64 w' a (ints ((List.range n).filter fun v => gl.getD v false)) ∧ Below w.heap.size w w' := by
  obtain ⟨w1, hw1⟩ : ∃ w1, w1 = w.alloc (.cells #[.slice i1 m1 c1, .slice ae n ce, .slice i2 m2 c2] TGr) := ⟨_, rfl⟩
  have hb1 : Below w.heap.size w w1 := by rw [hw1]; exact balloc (Below.refl _ _) _
  have r1 : RowAt w1 w.heap.size TGr (GC i1 m1 c1 ae n ce i2 m2 c2) := by rw [hw1]; exact RowAt.new (w := w) #[.slice i1 m1 c1, .slice ae n ce, .slice i2 m2 c2] rfl
  have hg1 := Lib.hid (hg.below hb1)
  replace hb1 := Lib.hid hb1
  replace r1 := Lib.hid r1
  replace hl := Lib.hid hl
  have hn2 : (n : Int) ≤ 1000000 := by omega
  obtain ⟨P, hP⟩ : ∃ P : Nat → Bool, P = fun v => gl.getD v false := ⟨_, rfl⟩
  rw [← hP]
  replace hP := Lib.hid hP
  go_enter Try.func45, Try.ntmps45
  go_wp2
  rw [← hw1]
  clear hw1 hg
  go_loopw [5, 6] (fun lv iv wr => ∃ (k : Nat) (a : Option Addr) (c m : Nat), k ≤ n ∧ iv = .int .i64 k ∧ lv = .slice a m c ∧ Hid (m = ((List.range k).filter P).length) ∧ Hid (OwnN .i64 wr w1.heap.size 3 a m c (ints ((List.range k).filter P))) ∧ Hid (Below w1.heap.size w1 wr)) (fun _ iv _ => n - (intOf iv).toNat)
  case atStart => exact ⟨0, none, 0, 0, Nat.zero_le _, rfl, rfl, rfl, OwnN.nil _ _ _ _, Below.refl _ _⟩
  case round =>
    obtain ⟨k, a, c, m, hk, rfl, rfl, hm, ow, lo⟩ := hrel
    have s1 := r1.out.below lo.out
    have x1 : wr.cell? ⟨w.heap.size, 1, none⟩ = some (.slice ae n ce) := s1.cell 1
    by_cases hkn : k < n
    · have hkn2 : (k : Int) < (n : Int) := by omega
      obtain ⟨b, off, hab, _, hc⟩ := (hg1.out.below lo.out).at k (by rw [hl.out]; exact hkn)
      have hsn := Lib.hid (filt_snoc P k)
      have hpk : P k = gl.getD k false := by rw [hP.out]
      rw [← hpk] at hc
      clear hpk
      generalize P k = pk at hc hsn
      have hmn : m ≤ n := by
        have h1 := hm.out
        have h2 := List.length_filter_le P (List.range k)
        rw [List.length_range] at h2
        omega
      have hmI : (m : Int) ≤ 1000000 := by omega
      replace hmn := Lib.hid hmn
      subst hab
      cases pk with
      | false =>
        rw [if_neg (by simp), List.append_nil] at hsn
        go_wp2
        go_roundw
        case rel => exact ⟨k + 1, a, c, m, by omega, by go_num, rfl, by show _ = _; rw [hsn.out]; exact hm.out, by show OwnN _ _ _ _ _ _ _ _; rw [hsn.out]; exact ow.out, lo⟩
        case measure => simp [intOf]; omega
      | true =>
        rw [if_pos rfl] at hsn
        have OW := Lib.hid (ow.out.alloc (.cells #[.int .i64 (k : Int)] 3))
        have NC : Hid ((wr.alloc (.cells #[.int .i64 (k : Int)] 3)).cell? ⟨wr.heap.size, 0, none⟩ = some (.int .i64 (k : Int))) := World.cell?_alloc_at _ _ _ _ rfl
        have y5 : Hid ((m + 1) * 8 ≤ 140737488355328) := by show _ ≤ _; have := hmn.out; omega
        have x5 : Hid (w1.heap.size ≤ (wr.alloc (.cells #[.int .i64 (k : Int)] 3)).heap.size) := by show _ ≤ _; have := lo.out.size; simp; omega
        go_wp2_with (at_builtin; refine wp_app1 rfl _ _ 22 3 .i64 8 rfl Try.underlying22 infoI w1.heap.size a m c _ rfl OW.out wr.heap.size 1 (k : Int) rfl NC.out y5.out (by decide) x5.out ?_)
        intro a3 c3 w3 ho3 hg3
        have lo3 := Lib.hid (bgrown (balloc lo.out (.cells #[.int .i64 (k : Int)] 3)) hg3 (fun j hj => ow.out.block j hj))
        have ow3 : Hid (OwnN .i64 w3 w1.heap.size 3 a3 (m + 1) c3 (ints ((List.range (k + 1)).filter P))) := by show OwnN _ _ _ _ _ _ _ _; rw [hsn.out]; unfold ints; rw [List.map_append]; exact ho3
        have hm3 : Hid (m + 1 = ((List.range (k + 1)).filter P).length) := by show _ = _; rw [hsn.out, List.length_append, ← hm.out]; rfl
        clear OW NC y5 x5 ho3 hg3 ow lo hm
        go_wp2
        go_roundw
        case rel => exact ⟨k + 1, a3, c3, m + 1, by omega, by go_num, rfl, hm3, ow3, lo3⟩
        case measure => simp [intOf]; omega
    · obtain rfl : k = n := by omega
      go_wp2
      go_ret
      exact ⟨a, c, by rw [hm.out]; rfl, NumsAt.of_owns ow.out, btrans hb1.out lo.out⟩
end
end Go.Proofs.Ytnllgigolfakpaa
