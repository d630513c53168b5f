/- The chapter's example: one node that goes to itself, and one that reads all. No conditions. -/
import Derived.Test.YtfcpfcgcfaacnaaNdActs2
namespace Go.Proofs.Ytfcpfcgcfaacnaa
open Go.RowKit

def oG : GR := ⟨[0], [[(0, 7)]], [0]⟩
def oA (u : Nat) : AU := ⟨1, [0], [⟨0, 0, u, [0]⟩]⟩
theorem oGOk : GOk oG := ⟨by intro x hx; simp [oG] at hx; subst hx; unfold u64ok; decide, by intro l hl; simp [oG] at hl; subst hl; decide, by decide, by decide, by decide⟩
theorem oLt (u : Nat) : Lt oG [] (oA u) := ⟨by decide, by decide, by decide, by decide, by simp [oA], by simp [oA], by intro l hl; simp [oG] at hl; subst hl; decide, by intro x hx; simp [oA] at hx; subst hx; simp⟩
theorem oOk (u : Nat) (hu : u = 0 ∨ u = 1) : AuOk (oA u) := by
  rcases hu with rfl | rfl
  · exact ⟨by decide, by intro x hx; simp [oA] at hx; subst hx; decide, by decide, by decide, by intro x hx; simp [oA] at hx; subst hx; refine ⟨by decide, by decide, by decide, by decide, ?_⟩; intro t ht; simp at ht; subst ht; decide⟩
  · exact ⟨by decide, by intro x hx; simp [oA] at hx; subst hx; decide, by decide, by decide, by intro x hx; simp [oA] at hx; subst hx; refine ⟨by decide, by decide, by decide, by decide, ?_⟩; intro t ht; simp at ht; subst ht; decide⟩
theorem o_src : srcB oG [] = true := by decide
theorem o_new (u : Nat) (hu : u = 0 ∨ u = 1) : newB oG [] (oA u) = true := by rcases hu with rfl | rfl <;> decide
/-- the example's graph in memory -/
theorem o_memG (w : World) : ∃ w5, w5 = ((((w.alloc (.cells #[.int .i64 0] TyI)).alloc (.cells #[.int .i64 0, .int .i64 7] TE)).alloc (.cells #[.slice (some ⟨w.heap.size + 1, 0, none⟩) 1 1] TEs)).alloc (.cells #[.int .u64 0] TU)).alloc (.cells #[.slice (some ⟨w.heap.size, 0, none⟩) 1 1, .slice (some ⟨w.heap.size + 2, 0, none⟩) 1 1, .slice (some ⟨w.heap.size + 3, 0, none⟩) 1 1] TG) ∧
    Below w.heap.size w w5 ∧ w5.heap.size = w.heap.size + 5 ∧ GAt w5 (some ⟨w.heap.size, 0, none⟩) (some ⟨w.heap.size + 2, 0, none⟩) (some ⟨w.heap.size + 3, 0, none⟩) oG ∧
    RowAt w5 (w.heap.size + 4) TG [.slice (some ⟨w.heap.size, 0, none⟩) 1 1, .slice (some ⟨w.heap.size + 2, 0, none⟩) 1 1, .slice (some ⟨w.heap.size + 3, 0, none⟩) 1 1] := by
  refine ⟨_, rfl, balloc (balloc (balloc (balloc (balloc (Below.refl _ _) _) _) _) _) _, by simp, ⟨?_, ?_, ?_⟩, ?_⟩
  · exact ((((nums_new rfl #[.int .i64 0] [0] rfl).alloc _).alloc _).alloc _).alloc _
  · intro _
    have r1 := (((RowAt.new (w := w.alloc (.cells #[.int .i64 0] TyI)) (T := TE) (n := w.heap.size + 1) #[.int .i64 0, .int .i64 7] (by simp)).alloc (.cells #[.slice (some ⟨w.heap.size + 1, 0, none⟩) 1 1] TEs)).alloc (.cells #[.int .u64 0] TU)).alloc (.cells #[.slice (some ⟨w.heap.size, 0, none⟩) 1 1, .slice (some ⟨w.heap.size + 2, 0, none⟩) 1 1, .slice (some ⟨w.heap.size + 3, 0, none⟩) 1 1] TG)
    have r2 := ((RowAt.new (w := (w.alloc (.cells #[.int .i64 0] TyI)).alloc (.cells #[.int .i64 0, .int .i64 7] TE)) (T := TEs) (n := w.heap.size + 2) #[.slice (some ⟨w.heap.size + 1, 0, none⟩) 1 1] (by simp)).alloc (.cells #[.int .u64 0] TU)).alloc (.cells #[.slice (some ⟨w.heap.size, 0, none⟩) 1 1, .slice (some ⟨w.heap.size + 2, 0, none⟩) 1 1, .slice (some ⟨w.heap.size + 3, 0, none⟩) 1 1] TG)
    refine ⟨w.heap.size + 2, 0, rfl, fun i hi => ?_⟩
    have hi0 : i = 0 := by simp [oG] at hi; exact hi
    subst hi0
    refine ⟨some ⟨w.heap.size + 1, 0, none⟩, 1, r2.cell 0, Nat.le_refl _, fun _ => ⟨w.heap.size + 1, 0, rfl, fun j hj => ?_⟩⟩
    have hj0 : j = 0 := by simp [oG] at hj; exact hj
    subst hj0
    exact ⟨r1.cell 0, r1.cell 1⟩
  · exact (nums_new (by simp) #[.int .u64 0] [0] rfl).alloc _
  · exact RowAt.new #[_, _, _] (by simp)
/-- the example's automaton in memory -/
theorem o_memA (w : World) (u : Nat) : ∃ w3, w3 = (((w.alloc (.cells #[.int .i64 0] TyI)).alloc (.cells #[.int .i64 0] TyI)).alloc (.cells #[.int .u64 0, .int .u64 0, .int .u64 (u : Int), .slice (some ⟨w.heap.size + 1, 0, none⟩) 1 1] TN)) ∧
    Below w.heap.size w w3 ∧ AuAt w3 (some ⟨w.heap.size, 0, none⟩) (oA u).init.length (some ⟨w.heap.size + 2, 0, none⟩) (oA u).nodes.length (oA u) := by
  refine ⟨_, rfl, balloc (balloc (balloc (Below.refl _ _) _) _) _, ⟨rfl, rfl, ?_, ?_⟩⟩
  · exact ((nums_new rfl #[.int .i64 0] [0] rfl).alloc _).alloc _
  · intro _
    have r7 := RowAt.new (w := (w.alloc (.cells #[.int .i64 0] TyI)).alloc (.cells #[.int .i64 0] TyI)) (T := TN) (n := w.heap.size + 2) #[.int .u64 0, .int .u64 0, .int .u64 (u : Int), .slice (some ⟨w.heap.size + 1, 0, none⟩) 1 1] (by simp)
    refine ⟨w.heap.size + 2, 0, rfl, fun i hi => ?_⟩
    have hi0 : i = 0 := by simp [oA] at hi; exact hi
    subst hi0
    exact ⟨r7.cell 0, r7.cell 1, r7.cell 2, some ⟨w.heap.size + 1, 0, none⟩, 1, r7.cell 3, (nums_new (by simp) #[.int .i64 0] [0] rfl).alloc _⟩
set_option maxHeartbeats 4000000 in
theorem one_any (w : World) (u : Nat) (hu : u = 0 ∨ u = 1) : Calls Try.prog 30 #[.int .u64 (u : Int)] w fun e w' => ∃ p, e = .returned (.pointer (some ⟨p, 0, none⟩)) ∧ Below w.heap.size w w' ∧ PrAt w' p oG [] (oA u) := by
  obtain ⟨w5, hw5, hb5, hz5, hG, rg⟩ := o_memG w
  have GC : Hid (Calls Try.prog 13 #[.agg #[.slice (some ⟨w.heap.size, 0, none⟩) 1 1, .slice (some ⟨w.heap.size + 2, 0, none⟩) 1 1, .slice (some ⟨w.heap.size + 3, 0, none⟩) 1 1], .slice none 0 0] w5 (SrcMade oG [] w5)) := graph_any w5 _ _ _ none 1 1 1 0 oG [] hG oGOk (SetsAt.nil _ _)
  have g0 : w5.cell? ⟨w.heap.size + 4, 0, none⟩ = some (.slice (some ⟨w.heap.size, 0, none⟩) 1 1) := rg.cell 0
  have g1 : w5.cell? ⟨w.heap.size + 4, 1, none⟩ = some (.slice (some ⟨w.heap.size + 2, 0, none⟩) 1 1) := rg.cell 1
  have g2 : w5.cell? ⟨w.heap.size + 4, 2, none⟩ = some (.slice (some ⟨w.heap.size + 3, 0, none⟩) 1 1) := rg.cell 2
  have AM := Lib.hid (fun v => o_memA v u)
  have hU : Hid (u = 0 ∨ u = 1) := hu
  replace hb5 := Lib.hid hb5
  clear hG rg hu
  go_enter Try.func30, Try.ntmps30
  go_wp2_with fail
  rw [← hw5]
  clear hw5 hz5
  refine GC.out.mono ?_
  rintro e w6 ⟨hb6, h6⟩
  obtain ⟨f, rfl, hF⟩ : ∃ f, e = .returned (.iface TFp (.pointer (some ⟨f, 0, none⟩))) ∧ FxAt w6 f oG (inbits oG.edges.length []) 0 := by
    rcases h6 with ⟨_, f, h1, h2⟩ | ⟨h1, _⟩
    · exact ⟨f, h1, h2⟩
    · rw [o_src] at h1; cases h1
  obtain ⟨w9, hw9, hb9, hA⟩ := AM.out w6
  have NC : Hid (Calls Try.prog 12 #[.iface TFp (.pointer (some ⟨f, 0, none⟩)), .agg #[.int .i64 1, .slice (some ⟨w6.heap.size, 0, none⟩) 1 1, .slice (some ⟨w6.heap.size + 2, 0, none⟩) 1 1]] w9 (NewMade oG [] (oA u) w9)) := new_any w9 _ _ 1 1 f oG [] (oA u) (hF.below hb9) o_src oGOk hA (oOk u hU.out)
  have hb69 := Lib.hid (btrans hb5.out (btrans hb6 hb9))
  clear GC AM g0 g1 g2 hb6 h6 hF hA hb9 hb5
  go_wp2_with fail
  rw [← hw9]
  clear hw9
  refine NC.out.mono ?_
  rintro e w3 ⟨hb3, h3⟩
  obtain ⟨p, rfl, hp⟩ : ∃ p, e = .returned (.pointer (some ⟨p, 0, none⟩)) ∧ Hid (PrAt w3 p oG [] (oA u)) := by
    rcases h3 with ⟨_, p, h1, h2⟩ | ⟨h1, _⟩
    · exact ⟨p, h1, h2⟩
    · rw [o_new u hU.out] at h1; cases h1
  have hb := Lib.hid (btrans hb69.out hb3)
  clear NC hb3 h3 hb69
  go_wp2
  go_ret
  exact ⟨p, rfl, hb.out, hp.out⟩
theorem ex1 : searchP oG [] (oA 1) 9 9 = ⟨2, 0, 1, 2, 1, [], [⟨0, 0, 0⟩]⟩ := by kernel_rfl
theorem ex2 : searchP oG [] (oA 0) 9 9 = ⟨1, 0, 1, 1, 1, [], []⟩ := by kernel_rfl
theorem ex3 : searchP oG [] (oA 0) 0 9 = ⟨3, 1, 0, 0, 0, [], []⟩ := by kernel_rfl
theorem exA : lassoActs (ndAct oG [] (oA 1)) [] [⟨0, 0, 0⟩] = ([], [7]) := by kernel_rfl
end Go.Proofs.Ytfcpfcgcfaacnaa
