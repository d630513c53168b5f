/- The chapter's example: one node that goes to itself, and one that reads all. No conditions. The law's examples hold. No conditions. What the operations of a law's region give: a source, a product, a search, a box. No conditions. Whether a task is too large: the walk. No conditions. What a product that no call made tells. No conditions. The walk of 'NdfsUsed'. No conditions but the form's reach. The walk of 'NdfsRaw'. No conditions but the form's reach. -/
import Derived.Test.YtfcpfcgcfaacnaaSNdActs2
import Derived.Test.YtfcpfcgcfaacnaaSEqInts
import Derived.Test.YtfcpfcgcfaacnaaSFree
import Derived.Test.YtfcpfcgcfaacnaaSNdUP
import Derived.BigRegion
import Derived.Test.YtfcpfcgcfaacnaaSNdSrcQ
import Derived.Test.YtfcpfcgcfaacnaaSNdLaw
import Derived.Test.YtfcpfcgcfaacnaaSPrNew
import Derived.Test.YtfcpfcgcfaacnaaSPrNext
import Derived.Test.YtfcpfcgcfaacnaaSPrRin
import Derived.Deep.RegionHeld3
import Derived.Test.YtfcpfcgcfaacnaaSNdRActs
namespace Go.Proofs.Ytfcpfcgcfaacnaa
open Go.RowKit
def oG : GR := ⟨[0], [[(0, 7)]], [0]⟩
def oA (u : Nat) : AU := ⟨1, [0], [⟨0, 0, u, [0]⟩]⟩
theorem oGOk : GOk oG := ⟨by intro x hx; simp [oG] at hx; subst hx; unfold u64ok; decide, by intro l hl; simp [oG] at hl; subst hl; decide, by decide, by decide, by decide⟩
theorem oLt (u : Nat) : Lt oG [] (oA u) := ⟨by decide, by decide, by decide, by decide, by simp [oA], by simp [oA], by intro l hl; simp [oG] at hl; subst hl; decide, by intro x hx; simp [oA] at hx; subst hx; simp⟩
theorem oOk (u : Nat) (hu : u = 0 ∨ u = 1) : AuOk (oA u) := by
 rcases hu with rfl | rfl
 ·exact ⟨by decide, by intro x hx; simp [oA] at hx; subst hx; decide, by decide, by decide, by intro x hx; simp [oA] at hx; subst hx; refine ⟨by decide, by decide, by decide, by decide, ?_⟩; intro t ht; simp at ht; subst ht; decide⟩
 ·exact ⟨by decide, by intro x hx; simp [oA] at hx; subst hx; decide, by decide, by decide, by intro x hx; simp [oA] at hx; subst hx; refine ⟨by decide, by decide, by decide, by decide, ?_⟩; intro t ht; simp at ht; subst ht; decide⟩
theorem o_src : srcB oG [] = true := by decide
theorem o_new (u : Nat) (hu : u = 0 ∨ u = 1) : newB oG [] (oA u) = true := by rcases hu with rfl | rfl <;> decide
theorem o_memG (w : World) : ∃ w5, w5 = ((((w.alloc (.cells #[.int .i64 0] TyI)).alloc (.cells #[.int .i64 0, .int .i64 7] TE)).alloc (.cells #[.slice (some ⟨w.heap.size + 1, 0, none⟩) 1 1] TEs)).alloc (.cells #[.int .u64 0] TU)).alloc (.cells #[.slice (some ⟨w.heap.size, 0, none⟩) 1 1, .slice (some ⟨w.heap.size + 2, 0, none⟩) 1 1, .slice (some ⟨w.heap.size + 3, 0, none⟩) 1 1] TG) ∧
  Below w.heap.size w w5 ∧ w5.heap.size = w.heap.size + 5 ∧ GAt w5 (some ⟨w.heap.size, 0, none⟩) (some ⟨w.heap.size + 2, 0, none⟩) (some ⟨w.heap.size + 3, 0, none⟩) oG ∧
  RowAt w5 (w.heap.size + 4) TG [.slice (some ⟨w.heap.size, 0, none⟩) 1 1, .slice (some ⟨w.heap.size + 2, 0, none⟩) 1 1, .slice (some ⟨w.heap.size + 3, 0, none⟩) 1 1] := by
 refine ⟨_, rfl, balloc (balloc (balloc (balloc (balloc (Below.refl _ _) _) _) _) _) _, by simp, ⟨?_, ?_, ?_⟩, ?_⟩
 ·exact ((((nums_new rfl #[.int .i64 0] [0] rfl).alloc _).alloc _).alloc _).alloc _
 ·intro _
  have r1 := (((RowAt.new (w := w.alloc (.cells #[.int .i64 0] TyI)) (T := TE) (n := w.heap.size + 1) #[.int .i64 0, .int .i64 7] (by simp)).alloc (.cells #[.slice (some ⟨w.heap.size + 1, 0, none⟩) 1 1] TEs)).alloc (.cells #[.int .u64 0] TU)).alloc (.cells #[.slice (some ⟨w.heap.size, 0, none⟩) 1 1, .slice (some ⟨w.heap.size + 2, 0, none⟩) 1 1, .slice (some ⟨w.heap.size + 3, 0, none⟩) 1 1] TG)
  have r2 := ((RowAt.new (w := (w.alloc (.cells #[.int .i64 0] TyI)).alloc (.cells #[.int .i64 0, .int .i64 7] TE)) (T := TEs) (n := w.heap.size + 2) #[.slice (some ⟨w.heap.size + 1, 0, none⟩) 1 1] (by simp)).alloc (.cells #[.int .u64 0] TU)).alloc (.cells #[.slice (some ⟨w.heap.size, 0, none⟩) 1 1, .slice (some ⟨w.heap.size + 2, 0, none⟩) 1 1, .slice (some ⟨w.heap.size + 3, 0, none⟩) 1 1] TG)
  refine ⟨w.heap.size + 2, 0, rfl, fun i hi => ?_⟩
  have hi0 : i = 0 := by simp [oG] at hi; exact hi
  subst hi0
  refine ⟨some ⟨w.heap.size + 1, 0, none⟩, 1, r2.cell 0, Nat.le_refl _, fun _ => ⟨w.heap.size + 1, 0, rfl, fun j hj => ?_⟩⟩
  have hj0 : j = 0 := by simp [oG] at hj; exact hj
  subst hj0
  exact ⟨r1.cell 0, r1.cell 1⟩
 ·exact (nums_new (by simp) #[.int .u64 0] [0] rfl).alloc _
 ·exact RowAt.new #[_, _, _] (by simp)
theorem o_memA (w : World) (u : Nat) : ∃ w3, w3 = (((w.alloc (.cells #[.int .i64 0] TyI)).alloc (.cells #[.int .i64 0] TyI)).alloc (.cells #[.int .u64 0, .int .u64 0, .int .u64 (u : Int), .slice (some ⟨w.heap.size + 1, 0, none⟩) 1 1] TN)) ∧
  Below w.heap.size w w3 ∧ AuAt w3 (some ⟨w.heap.size, 0, none⟩) (oA u).init.length (some ⟨w.heap.size + 2, 0, none⟩) (oA u).nodes.length (oA u) := by
 refine ⟨_, rfl, balloc (balloc (balloc (Below.refl _ _) _) _) _, ⟨rfl, rfl, ?_, ?_⟩⟩
 ·exact ((nums_new rfl #[.int .i64 0] [0] rfl).alloc _).alloc _
 ·intro _
  have r7 := RowAt.new (w := (w.alloc (.cells #[.int .i64 0] TyI)).alloc (.cells #[.int .i64 0] TyI)) (T := TN) (n := w.heap.size + 2) #[.int .u64 0, .int .u64 0, .int .u64 (u : Int), .slice (some ⟨w.heap.size + 1, 0, none⟩) 1 1] (by simp)
  refine ⟨w.heap.size + 2, 0, rfl, fun i hi => ?_⟩
  have hi0 : i = 0 := by simp [oA] at hi; exact hi
  subst hi0
  exact ⟨r7.cell 0, r7.cell 1, r7.cell 2, some ⟨w.heap.size + 1, 0, none⟩, 1, r7.cell 3, (nums_new (by simp) #[.int .i64 0] [0] rfl).alloc _⟩
set_option maxHeartbeats 4000000 in
theorem one_any (w : World) (u : Nat) (hu : u = 0 ∨ u = 1) : Calls Try.prog 30 #[.int .u64 (u : Int)] w fun e w' => ∃ p, e = .returned (.pointer (some ⟨p, 0, none⟩)) ∧ Below w.heap.size w w' ∧ PrAt w' p oG [] (oA u) := by
 obtain ⟨w5, hw5, hb5, hz5, hG, rg⟩ := o_memG w
 have GC : Hid (Calls Try.prog 13 #[.agg #[.slice (some ⟨w.heap.size, 0, none⟩) 1 1, .slice (some ⟨w.heap.size + 2, 0, none⟩) 1 1, .slice (some ⟨w.heap.size + 3, 0, none⟩) 1 1], .slice none 0 0] w5 (SrcMade oG [] w5)) := graph_any w5 _ _ _ none 1 1 1 0 oG [] hG oGOk (SetsAt.nil _ _)
 have g0 : w5.cell? ⟨w.heap.size + 4, 0, none⟩ = some (.slice (some ⟨w.heap.size, 0, none⟩) 1 1) := rg.cell 0
 have g1 : w5.cell? ⟨w.heap.size + 4, 1, none⟩ = some (.slice (some ⟨w.heap.size + 2, 0, none⟩) 1 1) := rg.cell 1
 have g2 : w5.cell? ⟨w.heap.size + 4, 2, none⟩ = some (.slice (some ⟨w.heap.size + 3, 0, none⟩) 1 1) := rg.cell 2
 have AM := Lib.hid (fun v => o_memA v u)
 have hU : Hid (u = 0 ∨ u = 1) := hu
 replace hb5 := Lib.hid hb5
 clear hG rg hu
 go_enter Try.func30, Try.ntmps30
 go_wp2_with fail
 rw [← hw5]
 clear hw5 hz5
 refine GC.out.mono ?_
 rintro e w6 ⟨hb6, h6⟩
 obtain ⟨f, rfl, hF⟩ : ∃ f, e = .returned (.iface TFp (.pointer (some ⟨f, 0, none⟩))) ∧ FxAt w6 f oG (inbits oG.edges.length []) 0 := by
  rcases h6 with ⟨_, f, h1, h2⟩ | ⟨h1, _⟩
  ·exact ⟨f, h1, h2⟩
  ·rw [o_src] at h1; cases h1
 obtain ⟨w9, hw9, hb9, hA⟩ := AM.out w6
 have NC : Hid (Calls Try.prog 12 #[.iface TFp (.pointer (some ⟨f, 0, none⟩)), .agg #[.int .i64 1, .slice (some ⟨w6.heap.size, 0, none⟩) 1 1, .slice (some ⟨w6.heap.size + 2, 0, none⟩) 1 1]] w9 (NewMade oG [] (oA u) w9)) := new_any w9 _ _ 1 1 f oG [] (oA u) (hF.below hb9) o_src oGOk hA (oOk u hU.out)
 have hb69 := Lib.hid (btrans hb5.out (btrans hb6 hb9))
 clear GC AM g0 g1 g2 hb6 h6 hF hA hb9 hb5
 go_wp2_with fail
 rw [← hw9]
 clear hw9
 refine NC.out.mono ?_
 rintro e w3 ⟨hb3, h3⟩
 obtain ⟨p, rfl, hp⟩ : ∃ p, e = .returned (.pointer (some ⟨p, 0, none⟩)) ∧ Hid (PrAt w3 p oG [] (oA u)) := by
  rcases h3 with ⟨_, p, h1, h2⟩ | ⟨h1, _⟩
  ·exact ⟨p, h1, h2⟩
  ·rw [o_new u hU.out] at h1; cases h1
 have hb := Lib.hid (btrans hb69.out hb3)
 clear NC hb3 h3 hb69
 go_wp2
 go_ret
 exact ⟨p, rfl, hb.out, hp.out⟩
theorem ex1 : searchP oG [] (oA 1) 9 9 = ⟨2, 0, 1, 2, 1, [], [⟨0, 0, 0⟩]⟩ := by kernel_rfl
theorem ex2 : searchP oG [] (oA 0) 9 9 = ⟨1, 0, 1, 1, 1, [], []⟩ := by kernel_rfl
theorem ex3 : searchP oG [] (oA 0) 0 9 = ⟨3, 1, 0, 0, 0, [], []⟩ := by kernel_rfl
theorem exA : lassoActs (ndAct oG [] (oA 1)) [] [⟨0, 0, 0⟩] = ([], [7]) := by kernel_rfl
end Go.Proofs.Ytfcpfcgcfaacnaa
namespace Go.Proofs.Ytfcpfcgcfaacnaa
open Go.RowKit
def zfound : List Value := [.int .i64 0, .int .i64 0, .int .i64 0, .int .i64 0, .int .i64 0, .slice none 0 0, .slice none 0 0]
def F1 : NF := ⟨2, 0, 1, 2, 1, [], [⟨0, 0, 0⟩]⟩
def F2 : NF := ⟨1, 0, 1, 1, 1, [], []⟩
def F3 : NF := ⟨3, 1, 0, 0, 0, [], []⟩
theorem list_getN {l : List Value} {n : Nat} (h : l.length = n) : l = (List.range n).map fun i => l.getD i undef := by
 refine List.ext_getElem (by simp [h]) fun i h1 h2 => ?_
 simp [List.getD, List.getElem?_eq_getElem h1]
theorem frame82 (arr : Array Value) (h : arr.size = 82) : ∃ q : Nat → Value, arr = #[q 0, q 1, q 2, q 3, q 4, q 5, q 6, q 7, q 8, q 9, q 10, q 11, q 12, q 13, q 14, q 15, q 16, q 17, q 18, q 19, q 20, q 21, q 22, q 23, q 24, q 25, q 26, q 27, q 28, q 29, q 30, q 31, q 32, q 33, q 34, q 35, q 36, q 37, q 38, q 39, q 40, q 41, q 42, q 43, q 44, q 45, q 46, q 47, q 48, q 49, q 50, q 51, q 52, q 53, q 54, q 55, q 56, q 57, q 58, q 59, q 60, q 61, q 62, q 63, q 64, q 65, q 66, q 67, q 68, q 69, q 70, q 71, q 72, q 73, q 74, q 75, q 76, q 77, q 78, q 79, q 80, q 81] := by
 refine ⟨fun i => arr.toList.getD i undef, ?_⟩
 have h1 := list_getN (l := arr.toList) (n := 82) (by simpa using h)
 apply Array.ext'
 exact h1
def lblk (v : Value) : Option Nat := match v with
 | .agg c => match c[6]? with
  | some (Value.slice (some ad) _ _) => some ad.block
  | _ => none
 | _ => none
structure wkV (B : World) (i : Nat) (v : Value) (w : World) : Prop where
 p1 : i = 0 → ∃ p, v = .pointer (some ⟨p, 0, none⟩) ∧ PrAt w p oG [] (oA 1)
 p0 : i = 3 ∨ i = 6 → ∃ p, v = .pointer (some ⟨p, 0, none⟩) ∧ PrAt w p oG [] (oA 0)
 b : i = 1 ∨ i = 4 → v = .agg #[.int .i64 9, .int .i64 9]
 b0 : i = 7 → v = .agg #[.int .i64 0, .int .i64 9]
 f1 : i = 2 → ∃ b, FoundAt w v F1 ∧ lblk v = some b ∧ b < w.heap.size
 f2 : i = 5 → FoundAt w v F2
 f3 : i = 8 → FoundAt w v F3
 z : 9 ≤ i → ∃ g, v = .pointer (some ⟨g, 0, none⟩) ∧ B.heap.size ≤ g ∧ RowAt w g TFd zfound
theorem wkV_keep (B : World) (i : Nat) (v : Value) (w w' : World) (h : wkV B i v w) (hb : Below w.heap.size w w') : wkV B i v w' where
 p1 := fun hi => by obtain ⟨p, h1, h2⟩ := h.p1 hi; exact ⟨p, h1, h2.below hb⟩
 p0 := fun hi => by obtain ⟨p, h1, h2⟩ := h.p0 hi; exact ⟨p, h1, h2.below hb⟩
 b := h.b
 b0 := h.b0
 f1 := fun hi => by obtain ⟨b, h1, h2, h3⟩ := h.f1 hi; exact ⟨b, h1.below hb, h2, Nat.lt_of_lt_of_le h3 hb.size⟩
 f2 := fun hi => (h.f2 hi).below hb
 f3 := fun hi => (h.f3 hi).below hb
 z := fun hi => by obtain ⟨g, h1, h2, h3⟩ := h.z hi; exact ⟨g, h1, h2, h3.below hb⟩
def newN (i : Nat) (w : World) (v : Value) : Prop := (9 ≤ i → v = .pointer (some ⟨w.heap.size, 0, none⟩)) ∧ (i = 2 → ∀ b, lblk v = some b → w.heap.size ≤ b)
def unlike (i j : Nat) (v u : Value) : Prop := (9 ≤ i → 9 ≤ j → v ≠ u) ∧ (i = 2 → 9 ≤ j → ∀ b, lblk v = some b → u ≠ .pointer (some ⟨b, 0, none⟩))
theorem wk_unlike (B : World) (i j : Nat) (v u : Value) (w : World) (hn : newN i w v) (hv : wkV B j u w) : unlike i j v u ∧ unlike j i u v := by
 have key : 9 ≤ i → 9 ≤ j → v ≠ u := fun h1 h2 e => by
  rw [hn.1 h1] at e
  obtain ⟨g, e2, _, h3⟩ := hv.z h2
  rw [e2] at e
  simp only [Value.pointer.injEq, Option.some.injEq, Addr.mk.injEq] at e
  have := h3.lt
  omega
 refine ⟨⟨key, fun h1 h2 b hb e => ?_⟩, fun h1 h2 e => key h2 h1 e.symm, fun h1 h2 b hb e => ?_⟩
 ·obtain ⟨g, e2, _, h3⟩ := hv.z h2
  rw [e2] at e
  simp only [Value.pointer.injEq, Option.some.injEq, Addr.mk.injEq] at e
  have := hn.2 h1 b hb
  have := h3.lt
  omega
 ·obtain ⟨b', _, e2, h3⟩ := hv.f1 h1
  rw [e2] at hb
  have := Option.some.inj hb
  rw [hn.1 h2] at e
  simp only [Value.pointer.injEq, Option.some.injEq, Addr.mk.injEq] at e
  omega
theorem found1_blk {base : Nat} {w : World} {v : Value} (h : FoundNew base w v F1) : ∃ b, FoundAt w v F1 ∧ lblk v = some b ∧ b < w.heap.size ∧ base ≤ b := by
 obtain ⟨sa, sc, la, lc, h1, h2, h3, h4⟩ := h
 obtain ⟨b, off, hb, hlt, _⟩ := h3.at 0 (by decide)
 subst hb h1
 exact ⟨b, ⟨sa, sc, _, lc, rfl, h2.1, h3⟩, rfl, hlt, h4 _ rfl⟩
set_option maxRecDepth 20000 in
set_option maxHeartbeats 8000000 in
theorem works_true (W : World) : Calls Try.prog 10 #[] W fun e w' => e = .returned (.bool true) ∧ Below W.heap.size W w' := by
 obtain ⟨B, hB⟩ : ∃ B, B = W.alloc (.cells #[.int .i64 9, .int .i64 9] 34) := ⟨_, rfl⟩
 have bB : Below W.heap.size W B := by rw [hB]; exact balloc (Below.refl _ _) _
 have rB : RowAt B W.heap.size 34 [.int .i64 9, .int .i64 9] := by rw [hB]; exact RowAt.new #[.int .i64 9, .int .i64 9] rfl
 have hB2 := Lib.hid hB
 clear hB
 go_enter Try.func10, Try.ntmps10
 go_upto_region 2 with (fail)
 rw [← hB2.out]
 refine wp_region_free (by kernel_rfl) 12 (fun w => Below B.heap.size B w) (fun w w' => Below w.heap.size w w') (wkV B) newN unlike (fun i j v u w _ h1 h2 => wk_unlike B i j v u w h1 h2) (wkV_keep B) (by kernel_rfl) (by kernel_rfl) (by kernel_rfl) (Below.refl _ _).drew ?_ ?_
 ·intro i hi
  match i, hi with
  | 0, _ =>
   intro o ho a w hR hF hD K hK
   simp only [zqA, zqZ, zqI] at ho
   subst ho
   go_simp
   refine (one_any w 1 (Or.inr rfl)).mono ?_
   rintro e w1 ⟨p, rfl, hb, hp⟩
   exact hK _ _ (btrans hR hb) hb ⟨fun h => absurd h (by decide), fun h => absurd h (by decide)⟩ ⟨fun _ => ⟨p, rfl, hp⟩, fun h => absurd h (by decide), fun h => absurd h (by decide), fun h => absurd h (by decide), fun h => absurd h (by decide), fun h => absurd h (by decide), fun h => absurd h (by decide), fun h => absurd h (by decide)⟩
  | 1, _ =>
   intro o ho a w hR hF hD K hK
   simp only [zqA, zqZ, zqS, zqI] at ho
   subst ho
   have e1 : a.tmps.getD 1 undef = .pointer (some ⟨W.heap.size, 0, none⟩) := hF 1 (znd (by kernel_rfl))
   have c0 : w.cell? ⟨W.heap.size, 0, none⟩ = some (.int .i64 9) := (rB.below hR).cell 0
   have c1 : w.cell? ⟨W.heap.size, 1, none⟩ = some (.int .i64 9) := (rB.below hR).cell 1
   go_simp
   exact hK _ _ hR (Below.refl _ _) ⟨fun h => absurd h (by decide), fun h => absurd h (by decide)⟩ ⟨fun h => absurd h (by decide), fun h => absurd h (by decide), fun _ => rfl, fun h => absurd h (by decide), fun h => absurd h (by decide), fun h => absurd h (by decide), fun h => absurd h (by decide), fun h => absurd h (by decide)⟩
  | 2, _ =>
   intro o ho a w hR hF hD K hK
   simp only [zqA, zqZ, zqS, zqI] at ho
   subst ho
   obtain ⟨p, e1, hp⟩ := (hD 0 (zdp (by kernel_rfl)) 8 rfl).p1 (by decide)
   have e2 := (hD 1 (zdp (by kernel_rfl)) 9 rfl).b (by decide)
   go_simp
   refine (search_made w p oG [] (oA 1) hp (oLt 1) (o_new 1 (Or.inr rfl)) 9 9).mono ?_
   rintro e w1 ⟨v, rfl, hb, hf⟩
   rw [ex1] at hf
   obtain ⟨b, hf1, hf2, hf3, hf4⟩ := found1_blk hf
   exact hK _ _ (btrans hR hb) hb ⟨fun h => absurd h (by decide), fun _ b' hb' => by rw [hf2] at hb'; cases hb'; exact hf4⟩ ⟨fun h => absurd h (by decide), fun h => absurd h (by decide), fun h => absurd h (by decide), fun h => absurd h (by decide), fun _ => ⟨b, hf1, hf2, hf3⟩, fun h => absurd h (by decide), fun h => absurd h (by decide), fun h => absurd h (by decide)⟩
  | 3, _ =>
   intro o ho a w hR hF hD K hK
   simp only [zqA, zqZ, zqS, zqI] at ho
   subst ho
   go_simp
   refine (one_any w 0 (Or.inl rfl)).mono ?_
   rintro e w1 ⟨p, rfl, hb, hp⟩
   exact hK _ _ (btrans hR hb) hb ⟨fun h => absurd h (by decide), fun h => absurd h (by decide)⟩ ⟨fun h => absurd h (by decide), fun _ => ⟨p, rfl, hp⟩, fun h => absurd h (by decide), fun h => absurd h (by decide), fun h => absurd h (by decide), fun h => absurd h (by decide), fun h => absurd h (by decide), fun h => absurd h (by decide)⟩
  | 4, _ =>
   intro o ho a w hR hF hD K hK
   simp only [zqA, zqZ, zqS, zqI] at ho
   subst ho
   have e1 : a.tmps.getD 1 undef = .pointer (some ⟨W.heap.size, 0, none⟩) := hF 1 (znd (by kernel_rfl))
   have c0 : w.cell? ⟨W.heap.size, 0, none⟩ = some (.int .i64 9) := (rB.below hR).cell 0
   have c1 : w.cell? ⟨W.heap.size, 1, none⟩ = some (.int .i64 9) := (rB.below hR).cell 1
   go_simp
   exact hK _ _ hR (Below.refl _ _) ⟨fun h => absurd h (by decide), fun h => absurd h (by decide)⟩ ⟨fun h => absurd h (by decide), fun h => absurd h (by decide), fun _ => rfl, fun h => absurd h (by decide), fun h => absurd h (by decide), fun h => absurd h (by decide), fun h => absurd h (by decide), fun h => absurd h (by decide)⟩
  | 5, _ =>
   intro o ho a w hR hF hD K hK
   simp only [zqA, zqZ, zqS, zqI] at ho
   subst ho
   obtain ⟨p, e1, hp⟩ := (hD 3 (zdp (by kernel_rfl)) 11 rfl).p0 (by decide)
   have e2 := (hD 4 (zdp (by kernel_rfl)) 12 rfl).b (by decide)
   go_simp
   refine (search_made w p oG [] (oA 0) hp (oLt 0) (o_new 0 (Or.inl rfl)) 9 9).mono ?_
   rintro e w1 ⟨v, rfl, hb, hf⟩
   rw [ex2] at hf
   exact hK _ _ (btrans hR hb) hb ⟨fun h => absurd h (by decide), fun h => absurd h (by decide)⟩ ⟨fun h => absurd h (by decide), fun h => absurd h (by decide), fun h => absurd h (by decide), fun h => absurd h (by decide), fun h => absurd h (by decide), fun _ => hf.at, fun h => absurd h (by decide), fun h => absurd h (by decide)⟩
  | 6, _ =>
   intro o ho a w hR hF hD K hK
   simp only [zqA, zqZ, zqS, zqI] at ho
   subst ho
   go_simp
   refine (one_any w 0 (Or.inl rfl)).mono ?_
   rintro e w1 ⟨p, rfl, hb, hp⟩
   exact hK _ _ (btrans hR hb) hb ⟨fun h => absurd h (by decide), fun h => absurd h (by decide)⟩ ⟨fun h => absurd h (by decide), fun _ => ⟨p, rfl, hp⟩, fun h => absurd h (by decide), fun h => absurd h (by decide), fun h => absurd h (by decide), fun h => absurd h (by decide), fun h => absurd h (by decide), fun h => absurd h (by decide)⟩
  | 7, _ =>
   intro o ho a w hR hF hD K hK
   simp only [zqA, zqZ, zqS, zqI] at ho
   subst ho
   go_simp
   exact hK _ _ hR (Below.refl _ _) ⟨fun h => absurd h (by decide), fun h => absurd h (by decide)⟩ ⟨fun h => absurd h (by decide), fun h => absurd h (by decide), fun h => absurd h (by decide), fun _ => rfl, fun h => absurd h (by decide), fun h => absurd h (by decide), fun h => absurd h (by decide), fun h => absurd h (by decide)⟩
  | 8, _ =>
   intro o ho a w hR hF hD K hK
   simp only [zqA, zqZ, zqS, zqI] at ho
   subst ho
   obtain ⟨p, e1, hp⟩ := (hD 6 (zdp (by kernel_rfl)) 14 rfl).p0 (by decide)
   have e2 := (hD 7 (zdp (by kernel_rfl)) 15 rfl).b0 (by decide)
   go_simp
   refine (search_made w p oG [] (oA 0) hp (oLt 0) (o_new 0 (Or.inl rfl)) 0 9).mono ?_
   rintro e w1 ⟨v, rfl, hb, hf⟩
   rw [ex3] at hf
   exact hK _ _ (btrans hR hb) hb ⟨fun h => absurd h (by decide), fun h => absurd h (by decide)⟩ ⟨fun h => absurd h (by decide), fun h => absurd h (by decide), fun h => absurd h (by decide), fun h => absurd h (by decide), fun h => absurd h (by decide), fun h => absurd h (by decide), fun _ => hf.at, fun h => absurd h (by decide)⟩
  | 9, _ =>
   intro o ho a w hR hF hD K hK
   simp only [zqA, zqZ, zqS, zqI] at ho
   subst ho
   go_simp
   exact hK _ _ (balloc hR _) (balloc (Below.refl _ _) _) ⟨fun _ => rfl, fun h => absurd h (by decide)⟩ ⟨fun h => absurd h (by decide), fun h => absurd h (by decide), fun h => absurd h (by decide), fun h => absurd h (by decide), fun h => absurd h (by decide), fun h => absurd h (by decide), fun h => absurd h (by decide), fun _ => ⟨w.heap.size, rfl, hR.size, RowAt.new zfound.toArray rfl⟩⟩
  | 10, _ =>
   intro o ho a w hR hF hD K hK
   simp only [zqA, zqZ, zqS, zqI] at ho
   subst ho
   go_simp
   exact hK _ _ (balloc hR _) (balloc (Below.refl _ _) _) ⟨fun _ => rfl, fun h => absurd h (by decide)⟩ ⟨fun h => absurd h (by decide), fun h => absurd h (by decide), fun h => absurd h (by decide), fun h => absurd h (by decide), fun h => absurd h (by decide), fun h => absurd h (by decide), fun h => absurd h (by decide), fun _ => ⟨w.heap.size, rfl, hR.size, RowAt.new zfound.toArray rfl⟩⟩
  | 11, _ =>
   intro o ho a w hR hF hD K hK
   simp only [zqA, zqZ, zqS, zqI] at ho
   subst ho
   go_simp
   exact hK _ _ (balloc hR _) (balloc (Below.refl _ _) _) ⟨fun _ => rfl, fun h => absurd h (by decide)⟩ ⟨fun h => absurd h (by decide), fun h => absurd h (by decide), fun h => absurd h (by decide), fun h => absurd h (by decide), fun h => absurd h (by decide), fun h => absurd h (by decide), fun h => absurd h (by decide), fun _ => ⟨w.heap.size, rfl, hR.size, RowAt.new zfound.toArray rfl⟩⟩
  | k + 12, hk => omega
 ·rintro ⟨tm, df⟩ w hdf hsz hF hR hV hU
  obtain rfl : df = [] := hdf
  obtain ⟨q, rfl⟩ := frame82 tm hsz
  have k1 : q 1 = .pointer (some ⟨W.heap.size, 0, none⟩) := hF 1 (znd (by kernel_rfl))
  obtain ⟨lb, ⟨sa1, sc1, la1, lc1, k10, ps1, pl1⟩, hlb, _⟩ := (hV 2 10 (by decide) rfl).f1 rfl
  obtain ⟨sa2, sc2, la2, lc2, k13, ps2, pl2⟩ := (hV 5 13 (by decide) rfl).f2 rfl
  obtain ⟨sa3, sc3, la3, lc3, k16, ps3, pl3⟩ := (hV 8 16 (by decide) rfl).f3 rfl
  obtain ⟨g2, k2, hg2, r2⟩ := (hV 9 2 (by decide) rfl).z (by decide)
  obtain ⟨g3, k3, hg3, r3⟩ := (hV 10 3 (by decide) rfl).z (by decide)
  obtain ⟨g4, k4, hg4, r4⟩ := (hV 11 4 (by decide) rfl).z (by decide)
  have v2 := (hU 2 9 10 2 (by decide) (by decide) (by decide) rfl rfl).2 rfl (by decide) lb hlb
  have v3 := (hU 2 10 10 3 (by decide) (by decide) (by decide) rfl rfl).2 rfl (by decide) lb hlb
  have v4 := (hU 2 11 10 4 (by decide) (by decide) (by decide) rfl rfl).2 rfl (by decide) lb hlb
  have u23 := (hU 9 10 2 3 (by decide) (by decide) (by decide) rfl rfl).1 (by decide) (by decide)
  have u24 := (hU 9 11 2 4 (by decide) (by decide) (by decide) rfl rfl).1 (by decide) (by decide)
  have u34 := (hU 10 11 3 4 (by decide) (by decide) (by decide) rfl rfl).1 (by decide) (by decide)
  replace k10 : q 10 = _ := k10
  replace k13 : q 13 = _ := k13
  replace k16 : q 16 = _ := k16
  replace k2 : q 2 = _ := k2
  replace k3 : q 3 = _ := k3
  replace k4 : q 4 = _ := k4
  replace u23 : q 2 ≠ q 3 := u23
  replace u24 : q 2 ≠ q 4 := u24
  replace u34 : q 3 ≠ q 4 := u34
  replace v2 : q 2 ≠ _ := v2
  replace v3 : q 3 ≠ _ := v3
  replace v4 : q 4 ≠ _ := v4
  replace hlb : lblk (q 10) = _ := hlb
  rw [k2] at v2
  rw [k3] at v3
  rw [k4] at v4
  rw [k10] at hlb
  rw [k2, k3] at u23
  rw [k2, k4] at u24
  rw [k3, k4] at u34
  have d23 : g2 ≠ g3 := fun e => u23 (by rw [e])
  have d24 : g2 ≠ g4 := fun e => u24 (by rw [e])
  have d34 : g3 ≠ g4 := fun e => u34 (by rw [e])
  have e2 : lb ≠ g2 := fun e => v2 (by rw [e])
  have e3 : lb ≠ g3 := fun e => v3 (by rw [e])
  have e4 : lb ≠ g4 := fun e => v4 (by rw [e])
  rw [k1, k2, k3, k4, k10, k13, k16]
  clear k1 k2 k3 k4 k10 k13 k16 v2 v3 v4 u23 u24 u34 hF hV hU hsz
  have hla : ∃ off pt, la1 = some ⟨lb, off, pt⟩ := by
   cases la1 with
   | none => cases hlb
   | some ad =>
    have h9 : some ad.block = some lb := hlb
    cases h9
    exact ⟨ad.off, _, rfl⟩
  clear hlb
  obtain ⟨off, pt, rfl⟩ := hla
  replace r2 : RowAt w g2 TFd [.int .i64 0, .int .i64 0, .int .i64 0, .int .i64 0, .int .i64 0, .slice none 0 0, .slice none 0 0] := r2
  replace r3 : RowAt w g3 TFd [.int .i64 0, .int .i64 0, .int .i64 0, .int .i64 0, .int .i64 0, .slice none 0 0, .slice none 0 0] := r3
  replace r4 : RowAt w g4 TFd [.int .i64 0, .int .i64 0, .int .i64 0, .int .i64 0, .int .i64 0, .slice none 0 0, .slice none 0 0] := r4
  have hbw := Lib.hid (btrans bB hR)
  clear hR rB
  rw [show (Value.agg (fcells F1 sa1 sc1 (some ⟨lb, off, pt⟩) lc1).toArray) = .agg #[.int .i64 2, .int .i64 0, .int .i64 1, .int .i64 2, .int .i64 1, .slice sa1 0 sc1, .slice (some ⟨lb, off, pt⟩) 1 lc1] from rfl, show (Value.agg (fcells F2 sa2 sc2 la2 lc2).toArray) = .agg #[.int .i64 1, .int .i64 0, .int .i64 1, .int .i64 1, .int .i64 1, .slice sa2 0 sc2, .slice la2 0 lc2] from rfl, show (Value.agg (fcells F3 sa3 sc3 la3 lc3).toArray) = .agg #[.int .i64 3, .int .i64 1, .int .i64 0, .int .i64 0, .int .i64 0, .slice sa3 0 sc3, .slice la3 0 lc3] from rfl]
  change wpAny _ _ _ _ 3 _ _ _
  have LW := r2.lt
  have f0 := r2.free 0
  have c0 := r2.cell 0
  have f1 := r2.free 1
  have c1 := r2.cell 1
  have f2 := r2.free 2
  have c2 := r2.cell 2
  have f3 := r2.free 3
  have c3 := r2.cell 3
  have f4 := r2.free 4
  have c4 := r2.cell 4
  have f5 := r2.free 5
  have c5 := r2.cell 5
  have f6 := r2.free 6
  have c6 := r2.cell 6
  simp only [List.getElem?_cons_zero, List.getElem?_cons_succ] at c0 c1 c2 c3 c4 c5 c6
  refine wpAny_ready (rs := [12]) (by kernel_rfl) (by simp) ?_
  refine AllReady.cons (i := 12) rfl (fun K hK => ?_) AllReady.nil
  go_simp
  refine hK _ _ ?_
  clear hK K f0 c0 f1 c1 f2 c2 f3 c3 f4 c4 f5 c5 f6 c6
  have s2 := store7 r2 (.int .i64 2) (.int .i64 0) (.int .i64 1) (.int .i64 2) (.int .i64 1) (.slice sa1 0 sc1) (.slice (some ⟨lb, off, pt⟩) 1 lc1)
  have K2 := keep7 w g2 (.int .i64 2) (.int .i64 0) (.int .i64 1) (.int .i64 2) (.int .i64 1) (.slice sa1 0 sc1) (.slice (some ⟨lb, off, pt⟩) 1 lc1)
  obtain ⟨w2, hw2⟩ : ∃ x, x = (((((((w.setCell ⟨g2, 0, none⟩ (.int .i64 2)).setCell ⟨g2, 1, none⟩ (.int .i64 0)).setCell ⟨g2, 2, none⟩ (.int .i64 1)).setCell ⟨g2, 3, none⟩ (.int .i64 2)).setCell ⟨g2, 4, none⟩ (.int .i64 1)).setCell ⟨g2, 5, none⟩ (.slice sa1 0 sc1)).setCell ⟨g2, 6, none⟩ (.slice (some ⟨lb, off, pt⟩) 1 lc1)) := ⟨_, rfl⟩
  rw [← hw2] at s2 K2 ⊢
  replace r3 := r3.keeps K2 (fun e => absurd e (by first | exact d23 | exact d24 | exact d34 | exact d23.symm | exact d24.symm | exact d34.symm))
  replace r4 := r4.keeps K2 (fun e => absurd e (by first | exact d23 | exact d24 | exact d34 | exact d23.symm | exact d24.symm | exact d34.symm))
  replace pl1 := pl1.keeps K2 (fun ad had => by cases had; exact e2)
  have hb2 := K2.below hbw.out (fun j e => by have := bB.size; omega)
  clear hw2 K2
  have f0 := r3.free 0
  have c0 := r3.cell 0
  have f1 := r3.free 1
  have c1 := r3.cell 1
  have f2 := r3.free 2
  have c2 := r3.cell 2
  have f3 := r3.free 3
  have c3 := r3.cell 3
  have f4 := r3.free 4
  have c4 := r3.cell 4
  have f5 := r3.free 5
  have c5 := r3.cell 5
  have f6 := r3.free 6
  have c6 := r3.cell 6
  simp only [List.getElem?_cons_zero, List.getElem?_cons_succ] at c0 c1 c2 c3 c4 c5 c6
  refine wpAny_ready (rs := [13]) (by kernel_rfl) (by simp) ?_
  refine AllReady.cons (i := 13) rfl (fun K hK => ?_) AllReady.nil
  go_simp
  refine hK _ _ ?_
  clear hK K f0 c0 f1 c1 f2 c2 f3 c3 f4 c4 f5 c5 f6 c6
  have s3 := store7 r3 (.int .i64 1) (.int .i64 0) (.int .i64 1) (.int .i64 1) (.int .i64 1) (.slice sa2 0 sc2) (.slice la2 0 lc2)
  have K3 := keep7 w2 g3 (.int .i64 1) (.int .i64 0) (.int .i64 1) (.int .i64 1) (.int .i64 1) (.slice sa2 0 sc2) (.slice la2 0 lc2)
  obtain ⟨w3, hw3⟩ : ∃ x, x = (((((((w2.setCell ⟨g3, 0, none⟩ (.int .i64 1)).setCell ⟨g3, 1, none⟩ (.int .i64 0)).setCell ⟨g3, 2, none⟩ (.int .i64 1)).setCell ⟨g3, 3, none⟩ (.int .i64 1)).setCell ⟨g3, 4, none⟩ (.int .i64 1)).setCell ⟨g3, 5, none⟩ (.slice sa2 0 sc2)).setCell ⟨g3, 6, none⟩ (.slice la2 0 lc2)) := ⟨_, rfl⟩
  rw [← hw3] at s3 K3 ⊢
  replace r4 := r4.keeps K3 (fun e => absurd e (by first | exact d23 | exact d24 | exact d34 | exact d23.symm | exact d24.symm | exact d34.symm))
  replace s2 := s2.keeps K3 (fun e => absurd e (by first | exact d23 | exact d24 | exact d34 | exact d23.symm | exact d24.symm | exact d34.symm))
  replace pl1 := pl1.keeps K3 (fun ad had => by cases had; exact e3)
  have hb3 := K3.below hb2 (fun j e => by have := bB.size; omega)
  clear hw3 K3
  have f0 := r4.free 0
  have c0 := r4.cell 0
  have f1 := r4.free 1
  have c1 := r4.cell 1
  have f2 := r4.free 2
  have c2 := r4.cell 2
  have f3 := r4.free 3
  have c3 := r4.cell 3
  have f4 := r4.free 4
  have c4 := r4.cell 4
  have f5 := r4.free 5
  have c5 := r4.cell 5
  have f6 := r4.free 6
  have c6 := r4.cell 6
  simp only [List.getElem?_cons_zero, List.getElem?_cons_succ] at c0 c1 c2 c3 c4 c5 c6
  refine wpAny_ready (rs := [14]) (by kernel_rfl) (by simp) ?_
  refine AllReady.cons (i := 14) rfl (fun K hK => ?_) AllReady.nil
  go_simp
  refine hK _ _ ?_
  clear hK K f0 c0 f1 c1 f2 c2 f3 c3 f4 c4 f5 c5 f6 c6
  have s4 := store7 r4 (.int .i64 3) (.int .i64 1) (.int .i64 0) (.int .i64 0) (.int .i64 0) (.slice sa3 0 sc3) (.slice la3 0 lc3)
  have K4 := keep7 w3 g4 (.int .i64 3) (.int .i64 1) (.int .i64 0) (.int .i64 0) (.int .i64 0) (.slice sa3 0 sc3) (.slice la3 0 lc3)
  obtain ⟨w4, hw4⟩ : ∃ x, x = (((((((w3.setCell ⟨g4, 0, none⟩ (.int .i64 3)).setCell ⟨g4, 1, none⟩ (.int .i64 1)).setCell ⟨g4, 2, none⟩ (.int .i64 0)).setCell ⟨g4, 3, none⟩ (.int .i64 0)).setCell ⟨g4, 4, none⟩ (.int .i64 0)).setCell ⟨g4, 5, none⟩ (.slice sa3 0 sc3)).setCell ⟨g4, 6, none⟩ (.slice la3 0 lc3)) := ⟨_, rfl⟩
  rw [← hw4] at s4 K4 ⊢
  replace s2 := s2.keeps K4 (fun e => absurd e (by first | exact d23 | exact d24 | exact d34 | exact d23.symm | exact d24.symm | exact d34.symm))
  replace s3 := s3.keeps K4 (fun e => absurd e (by first | exact d23 | exact d24 | exact d34 | exact d23.symm | exact d24.symm | exact d34.symm))
  replace pl1 := pl1.keeps K4 (fun ad had => by cases had; exact e4)
  have hb4 := K4.below hb3 (fun j e => by have := bB.size; omega)
  clear hw4 K4
  refine ⟨by kernel_rfl, ?_⟩
  have pl := Lib.hid pl1
  have ONE : Hid (∀ v, Below w4.heap.size w4 v → Calls Try.prog 30 #[.int .u64 1] v fun e w' => ∃ p, e = .returned (.pointer (some ⟨p, 0, none⟩)) ∧ Below v.heap.size v w' ∧ PrAt w' p oG [] (oA 1)) := fun v hv => one_any v 1 (Or.inr rfl)
  have rr2 := Lib.hid s2
  have rr3 := Lib.hid s3
  have rr4 := Lib.hid s4
  replace hb4 := Lib.hid hb4
  have EQ := Lib.hid (fun v (a1 a2 : Option Addr) (n1 n2 c1 c2 : Nat) (xs ys : List Int) h1 h2 => eq_ints v a1 a2 n1 c1 n2 c2 xs ys h1 h2)
  clear s2 s3 s4 pl1 r2 r3 r4 ps1 ps2 ps3 pl2 pl3 hb2 hb3 hbw bB LW
  have CC : Hid (∀ v, Below w4.heap.size w4 v → v.cell? ⟨g2, 0, none⟩ = some (.int .i64 2) ∧ v.cell? ⟨g2, 1, none⟩ = some (.int .i64 0) ∧ v.cell? ⟨g2, 2, none⟩ = some (.int .i64 1) ∧ v.cell? ⟨g2, 3, none⟩ = some (.int .i64 2) ∧ v.cell? ⟨g2, 4, none⟩ = some (.int .i64 1) ∧ v.cell? ⟨g2, 5, none⟩ = some (.slice sa1 0 sc1) ∧ v.cell? ⟨g2, 6, none⟩ = some (.slice (some ⟨lb, off, pt⟩) 1 lc1)) := fun v hv => ⟨(rr2.out.below hv).cell 0, (rr2.out.below hv).cell 1, (rr2.out.below hv).cell 2, (rr2.out.below hv).cell 3, (rr2.out.below hv).cell 4, (rr2.out.below hv).cell 5, (rr2.out.below hv).cell 6⟩
  have AC : Hid (∀ v p, Below w4.heap.size w4 v → PrAt v p oG [] (oA 1) → Calls Try.prog 18 #[.pointer (some ⟨p, 0, none⟩), .agg #[.int .i64 2, .int .i64 0, .int .i64 1, .int .i64 2, .int .i64 1, .slice sa1 0 sc1, .slice (some ⟨lb, off, pt⟩) 1 lc1]] v fun e w' => Below v.heap.size v w' ∧ ∃ a c a2 c2, e = .returned (.tuple #[.slice a 0 c, .slice a2 1 c2]) ∧ NumsAt .i64 w' a2 [7]) := fun v p hb hp => by
   have h1 := actsOf_any v p oG [] (oA 1) hp (oLt 1) (.agg #[.int .i64 2, .int .i64 0, .int .i64 1, .int .i64 2, .int .i64 1, .slice sa1 0 sc1, .slice (some ⟨lb, off, pt⟩) 1 lc1]) F1 ⟨sa1, sc1, some ⟨lb, off, pt⟩, lc1, rfl, (by intro h; exact absurd h (by decide)), pl.out.below hb⟩ (by decide) (by decide)
   rw [show lassoActs (ndAct oG [] (oA 1)) F1.stem F1.loop = ([], [7]) from exA] at h1
   exact h1.mono fun e w' ⟨h1, a, c, a2, c2, h2, h3, h4⟩ => ⟨h1, a, c, a2, c2, h2, h4⟩
  go_wp2
  obtain ⟨x0, x1, x2, x3, x4, x5, x6⟩ := CC.out w4 (Below.refl _ _)
  go_region_held3 (fun w' => w'.cell? ⟨g2, 0, none⟩ = some (.int .i64 2) ∧ w'.cell? ⟨g2, 1, none⟩ = some (.int .i64 0) ∧ w'.cell? ⟨g2, 2, none⟩ = some (.int .i64 1) ∧ w'.cell? ⟨g2, 3, none⟩ = some (.int .i64 2) ∧ w'.cell? ⟨g2, 4, none⟩ = some (.int .i64 1) ∧ w'.cell? ⟨g2, 5, none⟩ = some (.slice sa1 0 sc1) ∧ w'.cell? ⟨g2, 6, none⟩ = some (.slice (some ⟨lb, off, pt⟩) 1 lc1)) (first | exact CC.out _ K2 | exact CC.out _ K1 | exact CC.out _ (Below.refl _ _).drew | exact CC.out _ (Below.refl _ _)) (first
   | (go_at_call 18; (with_reducible refine (AC.out _ p K1 hp.out).mono ?_); rintro e w6 ⟨hb6, a, c, a2, c2, rfl, hn⟩; have K2 : Below w4.heap.size w4 w6 := btrans K1 hb6)
   | (go_at_call 30; (with_reducible refine (ONE.out _ (Below.refl _ _).drew).mono ?_); rintro e w5 ⟨p, rfl, hb5, hp⟩; replace hp := Lib.hid hp; have K1 : Below w4.heap.size w4 w5 := ⟨hb5.os, hb5.tape, hb5.output, hb5.size, hb5.block⟩))
  have rk2 := rr2.out.below K2
  have rk3 := rr3.out.below K2
  have rk4 := rr4.out.below K2
  have y20 : w6.cell? ⟨g2, 0, none⟩ = some (.int .i64 2) := rk2.cell 0
  have y21 : w6.cell? ⟨g2, 1, none⟩ = some (.int .i64 0) := rk2.cell 1
  have y22 : w6.cell? ⟨g2, 2, none⟩ = some (.int .i64 1) := rk2.cell 2
  have y23 : w6.cell? ⟨g2, 3, none⟩ = some (.int .i64 2) := rk2.cell 3
  have y24 : w6.cell? ⟨g2, 4, none⟩ = some (.int .i64 1) := rk2.cell 4
  have y30 : w6.cell? ⟨g3, 0, none⟩ = some (.int .i64 1) := rk3.cell 0
  have y31 : w6.cell? ⟨g3, 1, none⟩ = some (.int .i64 0) := rk3.cell 1
  have y32 : w6.cell? ⟨g3, 2, none⟩ = some (.int .i64 1) := rk3.cell 2
  have y33 : w6.cell? ⟨g3, 3, none⟩ = some (.int .i64 1) := rk3.cell 3
  have y34 : w6.cell? ⟨g3, 4, none⟩ = some (.int .i64 1) := rk3.cell 4
  have y40 : w6.cell? ⟨g4, 0, none⟩ = some (.int .i64 3) := rk4.cell 0
  have y41 : w6.cell? ⟨g4, 1, none⟩ = some (.int .i64 1) := rk4.cell 1
  have y42 : w6.cell? ⟨g4, 2, none⟩ = some (.int .i64 0) := rk4.cell 2
  have y43 : w6.cell? ⟨g4, 3, none⟩ = some (.int .i64 0) := rk4.cell 3
  have y44 : w6.cell? ⟨g4, 4, none⟩ = some (.int .i64 0) := rk4.cell 4
  have y25 : w6.cell? ⟨g2, 5, none⟩ = some (.slice sa1 0 sc1) := rk2.cell 5
  have y26 : w6.cell? ⟨g2, 6, none⟩ = some (.slice (some ⟨lb, off, pt⟩) 1 lc1) := rk2.cell 6
  clear rk2 rk3 rk4 x0 x1 x2 x3 x4 x5 x6
  replace hn := Lib.hid hn
  replace K2 := Lib.hid K2
  go_wp2_with fail
  refine (EQ.out _ a2 (some ⟨w6.heap.size, 0, none⟩) 1 1 c2 1 [7] [7] (hn.out.below (balloc (Below.refl _ _) _)) (nums_new rfl #[.int .i64 7] [7] rfl) rfl rfl (by decide) (by decide)).mono ?_
  rintro e w7 ⟨rfl, hq7⟩
  have K7 := Lib.hid (btrans K2.out (btrans (balloc (Below.refl _ _) (.cells #[.int .i64 7] 3)) (hq7.below _)))
  clear hq7
  have LA : Hid (∀ v, Below w4.heap.size w4 v → Calls Try.prog 16 #[.agg #[.int .i64 2, .int .i64 0, .int .i64 1, .int .i64 2, .int .i64 1, .slice sa1 0 sc1, .slice (some ⟨lb, off, pt⟩) 1 lc1]] v fun e w' => Below v.heap.size v w' ∧ ∃ a c a2 c2, e = .returned (.agg #[.slice a 0 c, .slice a2 1 c2]) ∧ NumsAt .i64 w' a2 [0]) := fun v hb => by
   have h1 := lasso_any v (.agg #[.int .i64 2, .int .i64 0, .int .i64 1, .int .i64 2, .int .i64 1, .slice sa1 0 sc1, .slice (some ⟨lb, off, pt⟩) 1 lc1]) F1 ⟨sa1, sc1, some ⟨lb, off, pt⟩, lc1, rfl, (by intro h; exact absurd h (by decide)), pl.out.below hb⟩ (by decide) (by decide)
   exact h1.mono fun e w' ⟨v', h2, h1, a, c, a2, c2, h3, h4, h5⟩ => ⟨h1, a, c, a2, c2, by rw [h2, h3]; rfl, h5⟩
  obtain ⟨x0, x1, x2, x3, x4, x5, x6⟩ := CC.out w7 K7.out
  clear y20 y21 y22 y23 y24 y25 y26 y30 y31 y32 y33 y34 y40 y41 y42 y43 y44
  rw [show decide (([7] : List Int) = [7]) = true from rfl]
  go_wp2_with fail
  refine (LA.out _ K7.out).mono ?_
  rintro e w8 ⟨hb8, a8, c8, a9, c9, rfl, hn8⟩
  replace hn8 := Lib.hid hn8
  have K8 := Lib.hid (btrans K7.out hb8)
  clear hb8 x0 x1 x2 x3 x4 x5 x6
  have hfd : ∀ w, Sem.run Try.prog (Instr.field 57 (.agg #[.slice a8 0 c8, .slice a9 1 c9]) 1) w = Result.ok (.slice a9 1 c9) w := fun w => by kernel_rfl
  go_wp2_with fail
  refine (EQ.out _ a9 (some ⟨w8.heap.size, 0, none⟩) 1 1 c9 1 [0] [0] (hn8.out.below (balloc (Below.refl _ _) _)) (nums_new rfl #[.int .i64 0] [0] rfl) rfl rfl (by decide) (by decide)).mono ?_
  rintro e w9 ⟨rfl, hq9⟩
  have K9 := Lib.hid (btrans hb4.out (btrans K8.out (btrans (balloc (Below.refl _ _) (.cells #[.int .i64 0] 3)) (hq9.below _))))
  clear hq9
  rw [show decide (([0] : List Int) = [0]) = true from rfl]
  go_wp2
  go_ret
  exact ⟨rfl, K9.out⟩
end Go.Proofs.Ytfcpfcgcfaacnaa
namespace Go.Proofs.Ytfcpfcgcfaacnaa
set_option linter.unusedVariables false
open Go.RowKit
theorem FoundNew.weak {base base' : Nat} {w : World} {v : Value} {f : NF} (h : FoundNew base w v f) (hb : base' ≤ base) : FoundNew base' w v f := by
 obtain ⟨sa, sc, la, lc, h1, h2, h3⟩ := h
 exact ⟨sa, sc, la, lc, h1, ⟨h2.1, fun ad had => Nat.le_trans hb (h2.2 ad had)⟩, ⟨h3.1, fun ad had => Nat.le_trans hb (h3.2 ad had)⟩⟩
section
variable {P : Program} {ops : Array Oper} {Q : Exit → Act → World → Prop}
end
end Go.Proofs.Ytfcpfcgcfaacnaa
namespace Go.Proofs.Ytfcpfcgcfaacnaa
open Go.RowKit
set_option maxHeartbeats 8000000 in
theorem heavy_any (w : World) (X : RX) (G : GR) (sets : List (List Bool)) (A : AU) (h : LawIn w X G sets A) :
  Calls Try.prog 9 #[.agg (tcells X G sets A).toArray] w fun e w' => e = .returned (.int .i64 (heavyN G sets A)) ∧ Below w.heap.size w w' := by
 obtain ⟨ai, ae, al, as_, bi, bn, ci, ce, cl, cs, di, dn⟩ := X
 dsimp only [tcells]
 have rg := RowAt.new (w := w) (T := TTk) #[.slice ai G.init.length ci, .slice ae G.edges.length ce, .slice al G.labels.length cl, .slice as_ sets.length cs, .int .i64 A.sets, .slice bi A.init.length di, .slice bn A.nodes.length dn] rfl
 have hb2 := balloc (Below.refl w.heap.size w) (.cells #[.slice ai G.init.length ci, .slice ae G.edges.length ce, .slice al G.labels.length cl, .slice as_ sets.length cs, .int .i64 A.sets, .slice bi A.init.length di, .slice bn A.nodes.length dn] TTk)
 obtain ⟨w2, hw2⟩ : ∃ w2, w.alloc (.cells #[.slice ai G.init.length ci, .slice ae G.edges.length ce, .slice al G.labels.length cl, .slice as_ sets.length cs, .int .i64 A.sets, .slice bi A.init.length di, .slice bn A.nodes.length dn] TTk) = w2 := ⟨_, rfl⟩
 rw [show (Obj.cells [Value.slice ai G.init.length ci, .slice ae G.edges.length ce, .slice al G.labels.length cl, .slice as_ sets.length cs, .int .i64 A.sets, .slice bi A.init.length di, .slice bn A.nodes.length dn].toArray TTk) = (.cells #[.slice ai G.init.length ci, .slice ae G.edges.length ce, .slice al G.labels.length cl, .slice as_ sets.length cs, .int .i64 A.sets, .slice bi A.init.length di, .slice bn A.nodes.length dn] TTk) from rfl] at rg hb2
 rw [hw2] at rg hb2
 have c0 : w2.cell? ⟨w.heap.size, 0, none⟩ = some (.slice ai G.init.length ci) := rg.cell 0
 have c1 : w2.cell? ⟨w.heap.size, 1, none⟩ = some (.slice ae G.edges.length ce) := rg.cell 1
 have c2 : w2.cell? ⟨w.heap.size, 2, none⟩ = some (.slice al G.labels.length cl) := rg.cell 2
 have c3 : w2.cell? ⟨w.heap.size, 3, none⟩ = some (.slice as_ sets.length cs) := rg.cell 3
 have c5 : w2.cell? ⟨w.heap.size, 5, none⟩ = some (.slice bi A.init.length di) := rg.cell 5
 have c6 : w2.cell? ⟨w.heap.size, 6, none⟩ = some (.slice bn A.nodes.length dn) := rg.cell 6
 have hE := Lib.hid (h.g.edges.below hb2)
 have hS := Lib.hid (h.s.below hb2)
 have hN := Lib.hid (h.au.nodes.below hb2)
 obtain ⟨R, hR⟩ : ∃ R, R = heavyN G sets A := ⟨_, rfl⟩
 rw [← hR]
 have hR1 : Hid (lightK G sets A = false → R = 1) := fun hl => by rw [hR, heavyN_1 hl]
 have hR0 : Hid (lightK G sets A = true → R = 0) := fun hl => by rw [hR, heavyN_0 hl]
 clear rg h hR
 by_cases q0 : G.edges.length ≤ 12
 ·have p0 : (G.edges.length : Int) ≤ 12 := by omega
  by_cases q1 : G.labels.length ≤ 40
  ·have p1 : (G.labels.length : Int) ≤ 40 := by omega
   by_cases q2 : G.init.length ≤ 20
   ·have p2 : (G.init.length : Int) ≤ 20 := by omega
    by_cases q3 : sets.length ≤ 20
    ·have p3 : (sets.length : Int) ≤ 20 := by omega
     by_cases q4 : A.nodes.length ≤ 8
     ·have p4 : (A.nodes.length : Int) ≤ 8 := by omega
      by_cases q5 : A.init.length ≤ 20
      ·have p5 : (A.init.length : Int) ≤ 20 := by omega
       have hq : Hid (lightK G sets A = (G.edges.all (fun l => decide (l.length ≤ 12)) && (sets.all (fun l => decide (l.length ≤ 40)) && A.nodes.all (fun x => decide (x.to.length ≤ 12))))) := by show _ = _; unfold lightK; rw [decide_eq_true ⟨q0, q1, q2, q3, q4, q5⟩, Bool.true_and]
       go_enter Try.func9, Try.ntmps9
       go_wp2
       clear hw2
       go_loop [2, 3] (fun bv iv => ∃ k : Nat, bv = .int .i64 0 ∧ k ≤ G.edges.length ∧ iv = .int .i64 k ∧ Hid ((G.edges.take k).all (fun l => decide (l.length ≤ 12)) = true)) (fun _ iv => G.edges.length - (intOf iv).toNat)
       case atStart => exact ⟨0, rfl, Nat.zero_le _, rfl, rfl⟩
       case round =>
        obtain ⟨k, rfl, hk, rfl, hs⟩ := hrel
        by_cases hlt : k < G.edges.length
        ·have hk2 : (k : Int) < (G.edges.length : Int) := by omega
         obtain ⟨b, off, a3, c3', ha, _, e0, _, _⟩ := hE.out.at k hlt
         have hy := Lib.hid (fun h => all_snocK (p := fun l : List PR => decide (l.length ≤ 12)) hlt hs.out h)
         have hn := Lib.hid (fun h => all_noK (p := fun l : List PR => decide (l.length ≤ 12)) hlt h)
         generalize G.edges[k] = es at e0 hy hn
         subst ha
         by_cases hl : es.length ≤ 12
         ·have hl2 : (es.length : Int) ≤ 12 := by omega
          have hs2 := Lib.hid (hy.out (decide_eq_true hl))
          clear hy hn hs
          go_wp2
          go_round
          case rel => exact ⟨k + 1, rfl, by omega, by go_num, hs2⟩
          case measure => simp [intOf]; omega
         ·have hl2 : 12 < (es.length : Int) := by omega
          have hr := Lib.hid (hn.out (decide_eq_false hl))
          have hr1 := Lib.hid (hR1.out (by rw [hq.out, hr.out] <;> simp))
          clear hy hn hs
          go_wp2
          go_ret
          rw [hr1.out]
          exact ⟨rfl, hb2⟩
        ·obtain rfl : k = G.edges.length := by omega
         rw [List.take_length] at hs
         have hs0 := Lib.hid hs.out
         clear hs
         go_wp2
         go_loop [2, 4] (fun bv iv => ∃ k : Nat, bv = .int .i64 0 ∧ k ≤ sets.length ∧ iv = .int .i64 k ∧ Hid ((sets.take k).all (fun l => decide (l.length ≤ 40)) = true)) (fun _ iv => sets.length - (intOf iv).toNat)
         case atStart => exact ⟨0, rfl, Nat.zero_le _, rfl, rfl⟩
         case round =>
          obtain ⟨k, rfl, hk, rfl, hs⟩ := hrel
          by_cases hlt : k < sets.length
          ·have hk2 : (k : Int) < (sets.length : Int) := by omega
           obtain ⟨b, off, ha, hcell⟩ := hS.out (by omega)
           obtain ⟨a3, c3', e0, _⟩ := hcell k hlt
           have hy := Lib.hid (fun h => all_snocK (p := fun l : List Bool => decide (l.length ≤ 40)) hlt hs.out h)
           have hn := Lib.hid (fun h => all_noK (p := fun l : List Bool => decide (l.length ≤ 40)) hlt h)
           generalize sets[k] = es at e0 hy hn
           subst ha
           by_cases hl : es.length ≤ 40
           ·have hl2 : (es.length : Int) ≤ 40 := by omega
            have hs2 := Lib.hid (hy.out (decide_eq_true hl))
            clear hy hn hs
            go_wp2
            go_round
            case rel => exact ⟨k + 1, rfl, by omega, by go_num, hs2⟩
            case measure => simp [intOf]; omega
           ·have hl2 : 40 < (es.length : Int) := by omega
            have hr := Lib.hid (hn.out (decide_eq_false hl))
            have hr1 := Lib.hid (hR1.out (by rw [hq.out, hs0.out, Bool.true_and, hr.out] <;> simp))
            clear hy hn hs
            go_wp2
            go_ret
            rw [hr1.out]
            exact ⟨rfl, hb2⟩
          ·obtain rfl : k = sets.length := by omega
           rw [List.take_length] at hs
           have hs1 := Lib.hid hs.out
           clear hs
           go_wp2
           go_loop [2, 5] (fun bv iv => ∃ k : Nat, bv = .int .i64 0 ∧ k ≤ A.nodes.length ∧ iv = .int .i64 k ∧ Hid ((A.nodes.take k).all (fun x => decide (x.to.length ≤ 12)) = true)) (fun _ iv => A.nodes.length - (intOf iv).toNat)
           case atStart => exact ⟨0, rfl, Nat.zero_le _, rfl, rfl⟩
           case round =>
            obtain ⟨k, rfl, hk, rfl, hs⟩ := hrel
            by_cases hlt : k < A.nodes.length
            ·have hk2 : (k : Int) < (A.nodes.length : Int) := by omega
             obtain ⟨b, off, ha, _, _, _, a3, x3, e0, _⟩ := hN.out.at k hlt
             have hy := Lib.hid (fun h => all_snocK (p := fun l : AN => decide (l.to.length ≤ 12)) hlt hs.out h)
             have hn := Lib.hid (fun h => all_noK (p := fun l : AN => decide (l.to.length ≤ 12)) hlt h)
             generalize A.nodes[k] = es at e0 hy hn
             subst ha
             by_cases hl : es.to.length ≤ 12
             ·have hl2 : (es.to.length : Int) ≤ 12 := by omega
              have hs2 := Lib.hid (hy.out (decide_eq_true hl))
              clear hy hn hs
              go_wp2
              go_round
              case rel => exact ⟨k + 1, rfl, by omega, by go_num, hs2⟩
              case measure => simp [intOf]; omega
             ·have hl2 : 12 < (es.to.length : Int) := by omega
              have hr := Lib.hid (hn.out (decide_eq_false hl))
              have hr1 := Lib.hid (hR1.out (by rw [hq.out, hs0.out, Bool.true_and, hs1.out, Bool.true_and, hr.out] <;> simp))
              clear hy hn hs
              go_wp2
              go_ret
              rw [hr1.out]
              exact ⟨rfl, hb2⟩
            ·obtain rfl : k = A.nodes.length := by omega
             rw [List.take_length] at hs
             have hr0 := Lib.hid (hR0.out (by rw [hq.out, hs0.out, hs1.out, hs.out, Bool.true_and, Bool.true_and]))
             clear hs
             go_wp2
             go_ret
             rw [hr0.out]
             exact ⟨rfl, hb2⟩
      ·have p5 : 20 < (A.init.length : Int) := by omega
       have hr1 := Lib.hid (hR1.out (by unfold lightK; rw [decide_eq_false (by omega)]; rfl))
       go_enter Try.func9, Try.ntmps9
       go_wp2
       go_ret
       rw [hr1.out]
       exact ⟨rfl, hb2⟩
     ·have p4 : 8 < (A.nodes.length : Int) := by omega
      have hr1 := Lib.hid (hR1.out (by unfold lightK; rw [decide_eq_false (by omega)]; rfl))
      go_enter Try.func9, Try.ntmps9
      go_wp2
      go_ret
      rw [hr1.out]
      exact ⟨rfl, hb2⟩
    ·have p3 : 20 < (sets.length : Int) := by omega
     have hr1 := Lib.hid (hR1.out (by unfold lightK; rw [decide_eq_false (by omega)]; rfl))
     go_enter Try.func9, Try.ntmps9
     go_wp2
     go_ret
     rw [hr1.out]
     exact ⟨rfl, hb2⟩
   ·have p2 : 20 < (G.init.length : Int) := by omega
    have hr1 := Lib.hid (hR1.out (by unfold lightK; rw [decide_eq_false (by omega)]; rfl))
    go_enter Try.func9, Try.ntmps9
    go_wp2
    go_ret
    rw [hr1.out]
    exact ⟨rfl, hb2⟩
  ·have p1 : 40 < (G.labels.length : Int) := by omega
   have hr1 := Lib.hid (hR1.out (by unfold lightK; rw [decide_eq_false (by omega)]; rfl))
   go_enter Try.func9, Try.ntmps9
   go_wp2
   go_ret
   rw [hr1.out]
   exact ⟨rfl, hb2⟩
 ·have p0 : 12 < (G.edges.length : Int) := by omega
  have hr1 := Lib.hid (hR1.out (by unfold lightK; rw [decide_eq_false (by omega)]; rfl))
  go_enter Try.func9, Try.ntmps9
  go_wp2
  go_ret
  rw [hr1.out]
  exact ⟨rfl, hb2⟩
end Go.Proofs.Ytfcpfcgcfaacnaa
namespace Go.Proofs.Ytfcpfcgcfaacnaa
open Go.RowKit
def Nobody (w : World) (p : Option Addr) : Prop := p = none ∨ ∃ b, p = some ⟨b, 0, none⟩ ∧ w.cell? ⟨b, 0, none⟩ = some .nilIface
theorem Nobody.below {w w' : World} {p : Option Addr} (h : Nobody w p) (hb : Below w.heap.size w w') : Nobody w' p := by
 rcases h with h | ⟨b, h1, h2⟩
 ·exact .inl h
 ·exact .inr ⟨b, h1, bcell hb h2⟩
theorem nobody_none (w : World) (p : Option Addr) (h : Nobody w p) : Calls Try.prog 66 #[.pointer p] w fun e w' => e = .returned (.bool true) ∧ w = w' := by
 rcases h with rfl | ⟨b, rfl, hc⟩
 ·exact nonil_any w
 ·go_enter Try.func66, Try.ntmps66
  go_wp2
  go_ret
  exact ⟨rfl, rfl⟩
theorem nobody_is (w : World) (p : Option Addr) (h : Nobody w p) (x : PP) : Calls Try.prog 80 #[.pointer p, ppv x] w fun e w' => e = .returned (.bool false) ∧ Below w.heap.size w w' := by
 have hb1 := balloc (Below.refl w.heap.size w) (.cells #[.int .i64 x.node, .int .i64 x.state, .int .i64 x.turn] TPP)
 have N := Lib.hid (fun k => nobody_none ((w.alloc (.cells #[.int .i64 x.node, .int .i64 x.state, .int .i64 x.turn] TPP)).drewN k) p (h.below (bdrewN hb1 k)))
 replace hb1 := Lib.hid hb1
 clear h
 go_enter Try.func80, Try.ntmps80
 go_wp2
 go_quiet ((go_at_call 66; exact Calls.quiet_of_same ((N.out _).mono fun _ _ h => ⟨h.1, h.2.symm⟩)))
 go_wp2
 go_ret
 exact ⟨rfl, bdrewN hb1.out _⟩
theorem nobody_next (w : World) (p : Option Addr) (h : Nobody w p) (x : PP) : Calls Try.prog 82 #[.pointer p, ppv x] w (GivesQ w []) := by
 obtain ⟨w1, hw1⟩ : ∃ w1, w.alloc (.cells #[.int .i64 x.node, .int .i64 x.state, .int .i64 x.turn] TPP) = w1 := ⟨_, rfl⟩
 have hb1 : Below w.heap.size w w1 := by rw [← hw1]; exact balloc (Below.refl _ _) _
 have hx : RowAt w1 w.heap.size TPP [.int .i64 x.node, .int .i64 x.state, .int .i64 x.turn] := by rw [← hw1]; exact RowAt.new #[.int .i64 x.node, .int .i64 x.state, .int .i64 x.turn] rfl
 have x0 : w1.cell? ⟨w.heap.size, 0, none⟩ = some (.int .i64 x.node) := hx.cell 0
 have x1 : w1.cell? ⟨w.heap.size, 1, none⟩ = some (.int .i64 x.state) := hx.cell 1
 have x2 : w1.cell? ⟨w.heap.size, 2, none⟩ = some (.int .i64 x.turn) := hx.cell 2
 have I := Lib.hid (nobody_is w1 p (h.below hb1) x)
 clear hx h
 go_enter Try.func82, Try.ntmps82
 go_wp2_with fail
 refine I.out.mono ?_
 rintro e w2 ⟨rfl, hb2⟩
 go_wp2
 go_ret
 exact ⟨none, 0, rfl, OwnR.nil _ _ _ _, btrans hb1 hb2⟩
set_option maxHeartbeats 2000000 in
theorem nobody_edge (w : World) (p : Option Addr) (h : Nobody w p) (x y : PP) : Calls Try.prog 74 #[.pointer p, ppv x, ppv y] w fun e w' => e = .returned (.tuple #[.agg #[.int .i64 0, .int .i64 0], .bool false]) ∧ Below w.heap.size w w' := by
 obtain ⟨w3, hw3⟩ : ∃ w3, w3 = ((w.alloc (.cells #[.int .i64 x.node, .int .i64 x.state, .int .i64 x.turn] TPP)).alloc (.cells #[.int .i64 y.node, .int .i64 y.state, .int .i64 y.turn] TPP)).alloc (.cells #[.int .i64 0, .int .i64 0] TE) := ⟨_, rfl⟩
 have hb3 : Below w.heap.size w w3 := by rw [hw3]; exact balloc (balloc (balloc (Below.refl _ _) _) _) _
 have rx : RowAt w3 w.heap.size TPP [.int .i64 x.node, .int .i64 x.state, .int .i64 x.turn] := by rw [hw3]; exact ((RowAt.new #[_, _, _] rfl).alloc _).alloc _
 have ry : RowAt w3 (w.heap.size + 1) TPP [.int .i64 y.node, .int .i64 y.state, .int .i64 y.turn] := by rw [hw3]; exact (RowAt.new #[_, _, _] (by simp)).alloc _
 have re : RowAt w3 (w.heap.size + 1 + 1) TE [.int .i64 0, .int .i64 0] := by rw [hw3]; exact RowAt.new #[_, _] (by simp)
 have CX : Hid (∀ w', Below w3.heap.size w3 w' → w'.cell? ⟨w.heap.size, 0, none⟩ = some (.int .i64 x.node) ∧ w'.cell? ⟨w.heap.size, 1, none⟩ = some (.int .i64 x.state) ∧ w'.cell? ⟨w.heap.size, 2, none⟩ = some (.int .i64 x.turn) ∧ w'.cell? ⟨w.heap.size + 1, 0, none⟩ = some (.int .i64 y.node) ∧ w'.cell? ⟨w.heap.size + 1, 1, none⟩ = some (.int .i64 y.state) ∧ w'.cell? ⟨w.heap.size + 1, 2, none⟩ = some (.int .i64 y.turn)) := fun w' hb => ⟨bcell hb (rx.cell 0), bcell hb (rx.cell 1), bcell hb (rx.cell 2), bcell hb (ry.cell 0), bcell hb (ry.cell 1), bcell hb (ry.cell 2)⟩
 have N : Hid (∀ w', Below w3.heap.size w3 w' → Calls Try.prog 82 #[.pointer p, .agg #[.int .i64 x.node, .int .i64 x.state, .int .i64 x.turn]] w' fun e w2 => ∃ a c, e = .returned (.slice a 0 c) ∧ Below w'.heap.size w' w2) := fun w' hb => (nobody_next w' p (h.below (btrans hb3 hb)) x).mono fun e w2 ⟨a, c, h1, _, h2⟩ => ⟨a, c, h1, h2⟩
 have CN : Hid (∀ w' a c, Calls Try.prog 84 #[.slice a 0 c, .agg #[.int .i64 y.node, .int .i64 y.state, .int .i64 y.turn]] w' fun e w2 => e = .returned (.bool false) ∧ Below w'.heap.size w' w2) := fun w' a c => by
  have h1 := contq_any w' a c [] (fun h => by simp at h) y (by decide)
  rw [show decide (y ∈ []) = false by simp] at h1
  exact h1
 obtain ⟨x0, x1, x2, y0, y1, y2⟩ := CX.out w3 (Below.refl _ _)
 have HW := Lib.hid hw3
 replace re := Lib.hid re
 clear hw3 rx ry h
 go_enter Try.func74, Try.ntmps74
 go_wp2_with fail
 rw [← HW.out]
 clear HW
 go_region_held3 (fun w' => w'.cell? ⟨w.heap.size, 0, none⟩ = some (.int .i64 x.node) ∧ w'.cell? ⟨w.heap.size, 1, none⟩ = some (.int .i64 x.state) ∧ w'.cell? ⟨w.heap.size, 2, none⟩ = some (.int .i64 x.turn) ∧ w'.cell? ⟨w.heap.size + 1, 0, none⟩ = some (.int .i64 y.node) ∧ w'.cell? ⟨w.heap.size + 1, 1, none⟩ = some (.int .i64 y.state) ∧ w'.cell? ⟨w.heap.size + 1, 2, none⟩ = some (.int .i64 y.turn)) (first | exact CX.out _ K2 | exact CX.out _ K1 | exact CX.out _ (Below.refl _ _) | exact CX.out _ (Below.refl _ _).drew) (first
  | (go_at_call 84; (with_reducible refine (CN.out _ aa cc).mono ?_); rintro e w5 ⟨rfl, hb5⟩; have K2 : Below w3.heap.size w3 w5 := btrans K1 hb5)
  | (go_at_call 82; (with_reducible refine (N.out _ (Below.refl _ _).drew).mono ?_); rintro e w4 ⟨aa, cc, rfl, hb4⟩; have K1 : Below w3.heap.size w3 w4 := ⟨hb4.os, hb4.tape, hb4.output, hb4.size, hb4.block⟩))
 have r5 := re.out.below K2
 have z0 : w5.cell? ⟨w.heap.size + 1 + 1, 0, none⟩ = some (.int .i64 0) := r5.cell 0
 have z1 : w5.cell? ⟨w.heap.size + 1 + 1, 1, none⟩ = some (.int .i64 0) := r5.cell 1
 have f0 := r5.free 0
 have f1 := r5.free 1
 have hbL := Lib.hid (btrans hb3 K2)
 clear CX N CN x0 x1 x2 y0 y1 y2 K1 K2
 go_wp2
 refine bodyPost_ret (v := .tuple #[.agg #[.int .i64 0, .int .i64 0], .bool false]) (by simp [results, Try.results74, go_sem, z0, z1]) rfl ⟨rfl, bsetN (bsetN hbL.out (by omega)) (by omega)⟩
end Go.Proofs.Ytfcpfcgcfaacnaa
namespace Go.Proofs.Ytfcpfcgcfaacnaa
open Go.RowKit
structure BoxT (W : World) (X : RX) (G : GR) (sets : List (List Bool)) (A : AU) (b1 b2 : Int) (w : World) : Prop where
 rt : RowAt w W.heap.size TTk (tcells X G sets A)
 rb : RowAt w (W.heap.size + 1) TBu [.int .i64 b1, .int .i64 b2]
 below : Below W.heap.size W w
theorem BoxT.start (W : World) (X : RX) (G : GR) (sets : List (List Bool)) (A : AU) (b1 b2 : Int) : BoxT W X G sets A b1 b2 ((W.alloc (.cells (tcells X G sets A).toArray TTk)).alloc (.cells #[.int .i64 b1, .int .i64 b2] TBu)) :=
 ⟨(RowAt.new (tcells X G sets A).toArray rfl).alloc _, RowAt.new #[.int .i64 b1, .int .i64 b2] (by simp), balloc (balloc (Below.refl _ _) _) _⟩
theorem BoxT.next {W : World} {X : RX} {G : GR} {sets : List (List Bool)} {A : AU} {b1 b2 : Int} {w w' : World} (h : BoxT W X G sets A b1 b2 w) (hb : Below w.heap.size w w') : BoxT W X G sets A b1 b2 w' := ⟨h.rt.below hb, h.rb.below hb, btrans h.below hb⟩
end Go.Proofs.Ytfcpfcgcfaacnaa
namespace Go.Proofs.Ytfcpfcgcfaacnaa
open Go.RowKit
def actsP (G : GR) (sets : List (List Bool)) (A : AU) (stem loop : List PP) : List Int × List Int := if newB G sets A = true then lassoActs (ndAct G sets A) stem loop else ([], [])
theorem acts_void (stem loop : List PP) : lassoActs (actE (fun _ _ => none)) stem loop = ([], []) := by
 cases loop with
 | nil => rfl
 | cons z r =>
  have h : chain (actE (fun _ _ => none)) (z :: r ++ [z]) = none := by
   cases r with
   | nil => rfl
   | cons y r => rfl
  show bothO (chain _ (stem ++ [z])) (chain _ (z :: r ++ [z])) = _
  rw [h]
  cases chain (actE (fun _ _ => none)) (stem ++ [z]) <;> rfl
theorem chain_len (E : PP → PP → Option Int) : ∀ (l : List PP) (xs : List Int), chain E l = some xs → xs.length ≤ l.length
 | [], xs, h => by cases h; exact Nat.le_refl _
 | [_], xs, h => by cases h; exact Nat.zero_le _
 | a :: b :: l, xs, h => by
  rw [chain] at h
  cases hE : E a b with
  | none => rw [hE] at h; cases h
  | some v =>
   rw [hE] at h
   simp only at h
   cases hc : chain E (b :: l) with
   | none => rw [hc] at h; cases h
   | some ys =>
    rw [hc] at h
    cases h
    have := chain_len E (b :: l) ys hc
    simp only [List.length_cons] at this ⊢
    omega
theorem acts_len (E : PP → PP → Option Int) (stem loop : List PP) : (lassoActs E stem loop).1.length ≤ stem.length + 1 ∧ (lassoActs E stem loop).2.length ≤ loop.length + 1 := by
 cases loop with
 | nil => exact ⟨Nat.zero_le _, Nat.zero_le _⟩
 | cons z r =>
  show (bothO (chain E (stem ++ [z])) (chain E (z :: r ++ [z]))).1.length ≤ _ ∧ (bothO (chain E (stem ++ [z])) (chain E (z :: r ++ [z]))).2.length ≤ _
  cases h1 : chain E (stem ++ [z]) with
  | none => exact ⟨Nat.zero_le _, Nat.zero_le _⟩
  | some xs =>
   cases h2 : chain E (z :: r ++ [z]) with
   | none => exact ⟨Nat.zero_le _, Nat.zero_le _⟩
   | some ys =>
    have e1 := chain_len E _ _ h1
    have e2 := chain_len E _ _ h2
    rw [List.length_append] at e1 e2
    exact ⟨e1, e2⟩
theorem actsP_len (G : GR) (sets : List (List Bool)) (A : AU) (stem loop : List PP) : (actsP G sets A stem loop).1.length ≤ stem.length + 1 ∧ (actsP G sets A stem loop).2.length ≤ loop.length + 1 := by
 unfold actsP
 split
 ·exact acts_len _ _ _
 ·exact ⟨Nat.zero_le _, Nat.zero_le _⟩
theorem acts_nv (w : World) (v : Value) (G : GR) (sets : List (List Bool)) (A : AU) (hv : NewV w G sets A v) (lt : Lt G sets A) (k9 y9 n9 e9 d9 : Int) (sa la : Option Addr) (sc lc : Nat) (stem loop : List PP) (ps : PpsAt w sa stem) (pl : PpsAt w la loop) (hs : stem.length ≤ 1000000) (hl : loop.length ≤ 1000000) :
  Calls Try.prog 18 #[v, .agg #[.int .i64 k9, .int .i64 y9, .int .i64 n9, .int .i64 e9, .int .i64 d9, .slice sa stem.length sc, .slice la loop.length lc]] w fun e w' => Below w.heap.size w w' ∧ TwoAt w' e (actsP G sets A stem loop) := by
 unfold actsP
 rcases hv with ⟨h1, p, rfl, hp⟩ | ⟨h1, rfl⟩
 ·rw [if_pos h1]
  exact actsV_any w p G sets A hp lt k9 y9 n9 e9 d9 sa la sc lc stem loop ps pl hs hl
 ·rw [if_neg (by rw [h1]; decide), ← acts_void stem loop]
  exact acts_v w (.pointer none) (fun _ _ => none) (fun v hb x y => nobody_edge v none (.inl rfl) x y) k9 y9 n9 e9 d9 sa la sc lc stem loop ps pl hs hl
structure FA where
 k : Int
 y : Int
 n : Int
 e : Int
 d : Int
 stem : List PP
 loop : List PP
theorem PpsAt.of_rSl {w : World} {v : Value} {xs : List PP} (h : rSl 3 24 rPP w [v] xs) : ∃ a cap, v = .slice a xs.length cap ∧ PpsAt w a xs := by
 obtain ⟨a, cap, h1, h2, h3, _, h5⟩ := h
 refine ⟨a, cap, by simpa using h1, fun h0 => ?_⟩
 obtain ⟨b, off, ha, hc⟩ := h5 h0
 refine ⟨b, off, ha, fun i hi => ?_⟩
 obtain ⟨vs, _, hv, hr⟩ := hc i hi
 unfold rPP at hr
 subst hr
 exact ⟨by have := hv 0 (by decide); simpa using this, by have := hv 1 (by decide); simpa using this, by have := hv 2 (by decide); simpa using this⟩
structure BoxR (W : World) (X : RX) (G : GR) (sets : List (List Bool)) (A : AU) (fc : List Value) (b1 b2 : Int) (w : World) : Prop where
 rt : RowAt w W.heap.size TTk (tcells X G sets A)
 rf : RowAt w (W.heap.size + 1) TFd fc
 rb : RowAt w (W.heap.size + 2) TBu [.int .i64 b1, .int .i64 b2]
 below : Below W.heap.size W w
theorem BoxR.start (W : World) (X : RX) (G : GR) (sets : List (List Bool)) (A : AU) (fc : Array Value) (b1 b2 : Int) : BoxR W X G sets A fc.toList b1 b2 (((W.alloc (.cells (tcells X G sets A).toArray TTk)).alloc (.cells fc TFd)).alloc (.cells #[.int .i64 b1, .int .i64 b2] TBu)) :=
 ⟨((RowAt.new (tcells X G sets A).toArray rfl).alloc _).alloc _, (RowAt.new fc (by simp)).alloc _, RowAt.new #[.int .i64 b1, .int .i64 b2] (by simp), balloc (balloc (balloc (Below.refl _ _) _) _) _⟩
theorem BoxR.next {W : World} {X : RX} {G : GR} {sets : List (List Bool)} {A : AU} {fc : List Value} {b1 b2 : Int} {w w' : World} (h : BoxR W X G sets A fc b1 b2 w) (hb : Below w.heap.size w w') : BoxR W X G sets A fc b1 b2 w' := ⟨h.rt.below hb, h.rf.below hb, h.rb.below hb, btrans h.below hb⟩
structure RawD (base n1 n2 : Nat) (stem loop : List PP) (L : Nat → Bool) (rho : Nat → Value) (w : World) : Prop where
 s : L 2 = true → ∃ a c, rho 2 = .slice a n1 c ∧ OwnR w base TRq 3 a n1 c (qcells stem) ∧ (L 7 = true → ∀ g, rho 7 = .pointer (some ⟨g, 0, none⟩) → (Value.slice a n1 c).ownBlock ≠ some g)
 l : L 5 = true → ∃ a c, rho 5 = .slice a n2 c ∧ OwnR w base TRq 3 a n2 c (qcells loop) ∧ (L 7 = true → ∀ g, rho 7 = .pointer (some ⟨g, 0, none⟩) → (Value.slice a n2 c).ownBlock ≠ some g)
 b : L 7 = true → ∃ g, rho 7 = .pointer (some ⟨g, 0, none⟩) ∧ base ≤ g ∧ RowAt w g TRF [.int .i64 0, .int .i64 0, .int .i64 0, .int .i64 0, .int .i64 0, .slice none 0 0, .slice none 0 0]
 c : L 6 = true → rho 6 = .agg #[.int .i64 0, .int .i64 0, .int .i64 0, .int .i64 0, .int .i64 0, rho 2, rho 5]
section
variable {base n1 n2 : Nat} {stem loop : List PP} {L : Nat → Bool} {rho : Nat → Value} {w w' : World}
theorem RawD.start : RawD base n1 n2 stem loop (fun _ => false) rho w := ⟨fun h => (by cases h), fun h => (by cases h), fun h => (by cases h), fun h => (by cases h)⟩
theorem RawD.pass {i : Nat} {v : Value} (h : RawD base n1 n2 stem loop L rho w) (h2 : 2 ≠ i) (h5 : 5 ≠ i) (h6 : 6 ≠ i) (h7 : 7 ≠ i) : RawD base n1 n2 stem loop (updB L i) (updV rho i v) w := by
 refine ⟨?_, ?_, ?_, ?_⟩
 ·rw [updB_ne h2, updB_ne h7, updV_ne h2, updV_ne h7]; exact h.s
 ·rw [updB_ne h5, updB_ne h7, updV_ne h5, updV_ne h7]; exact h.l
 ·rw [updB_ne h7, updV_ne h7]; exact h.b
 ·rw [updB_ne h6, updV_ne h6, updV_ne h2, updV_ne h5]; exact h.c
theorem RawD.box_ (h : RawD base n1 n2 stem loop L rho w) (hbase : base ≤ w.heap.size) : RawD base n1 n2 stem loop (updB L 7) (updV rho 7 (.pointer (some ⟨w.heap.size, 0, none⟩))) (w.alloc (.cells #[.int .i64 0, .int .i64 0, .int .i64 0, .int .i64 0, .int .i64 0, .slice none 0 0, .slice none 0 0] TRF)) := by
 refine ⟨?_, ?_, fun _ => ⟨w.heap.size, updV_eq _ _, hbase, RowAt.new #[.int .i64 0, .int .i64 0, .int .i64 0, .int .i64 0, .int .i64 0, .slice none 0 0, .slice none 0 0] rfl⟩, ?_⟩
 ·rw [updB_ne (by decide), updV_ne (by decide), updV_eq]
  intro q
  obtain ⟨a9, c9, e1, e2, e3⟩ := h.s q
  refine ⟨a9, c9, e1, OwnR.alloc e2 _, fun _ g hg e => ?_⟩
  cases hg
  have := (OwnR.lt e2 e).2
  omega
 ·rw [updB_ne (by decide), updV_ne (by decide), updV_eq]
  intro q
  obtain ⟨a9, c9, e1, e2, e3⟩ := h.l q
  refine ⟨a9, c9, e1, OwnR.alloc e2 _, fun _ g hg e => ?_⟩
  cases hg
  have := (OwnR.lt e2 e).2
  omega
 ·rw [updB_ne (by decide), updV_ne (by decide), updV_ne (by decide), updV_ne (by decide)]
  exact h.c
end
def Apart (a : Option Addr) (n g : Nat) : Prop := 0 < n → ∀ ad : Addr, a = some ad → ad.block ≠ g
theorem NumsNew.lt {base : Nat} {w : World} {a : Option Addr} {l : List Int} (h : NumsNew base w a l) (h0 : 0 < l.length) {ad : Addr} (had : a = some ad) : base ≤ ad.block ∧ ad.block < w.heap.size := by
 obtain ⟨b, o, ha, hc⟩ := h.1 h0
 refine ⟨h.2 ad had, ?_⟩
 rw [had] at ha
 cases ha
 exact World.block_lt_of_cell? w _ (hc 0 h0)
theorem NumsAt.apart {w w' : World} {a : Option Addr} {l : List Int} {g : Nat} (h : NumsAt .i64 w a l) (hk : Keeps w w' (fun j => j = g)) (hn : Apart a l.length g) : NumsAt .i64 w' a l := by
 by_cases h0 : 0 < l.length
 ·exact h.keeps hk (fun ad had e => hn h0 ad had e)
 ·intro h1; exact absurd h1 h0
structure LasD (base n1 n2 : Nat) (st lo : List Int) (L : Nat → Bool) (rho : Nat → Value) (w : World) : Prop where
 p : ∀ i, i = 1 ∨ i = 3 → L i = true → ∃ a c a2 c2, rho i = .agg #[.slice a n1 c, .slice a2 n2 c2] ∧ NumsNew base w a st ∧ NumsNew base w a2 lo ∧ ∀ j, j = 4 ∨ j = 5 → L j = true → ∀ g, rho j = .pointer (some ⟨g, 0, none⟩) → Apart a n1 g ∧ Apart a2 n2 g
 b : ∀ i, i = 4 ∨ i = 5 → L i = true → ∃ g, rho i = .pointer (some ⟨g, 0, none⟩) ∧ base ≤ g ∧ RowAt w g 57 [.slice none 0 0, .slice none 0 0]
 d : L 4 = true → L 5 = true → rho 4 ≠ rho 5
section
variable {base n1 n2 : Nat} {st lo : List Int} {L : Nat → Bool} {rho : Nat → Value} {w w' : World}
theorem LasD.start : LasD base n1 n2 st lo (fun _ => false) rho w := ⟨fun _ _ h => (by cases h), fun _ _ h => (by cases h), fun h => (by cases h)⟩
theorem LasD.pass {i : Nat} {v : Value} (h : LasD base n1 n2 st lo L rho w) (h1 : 1 ≠ i) (h3 : 3 ≠ i) (h4 : 4 ≠ i) (h5 : 5 ≠ i) : LasD base n1 n2 st lo (updB L i) (updV rho i v) w := by
 refine ⟨fun k hk => ?_, fun k hk => ?_, ?_⟩
 ·have hki : k ≠ i := by rcases hk with rfl | rfl <;> assumption
  rw [updB_ne hki, updV_ne hki]
  intro q
  obtain ⟨a, c, a2, c2, e1, e2, e3, e4⟩ := h.p k hk q
  refine ⟨a, c, a2, c2, e1, e2, e3, fun j hj => ?_⟩
  have hji : j ≠ i := by rcases hj with rfl | rfl <;> assumption
  rw [updB_ne hji, updV_ne hji]
  exact e4 j hj
 ·have hki : k ≠ i := by rcases hk with rfl | rfl <;> assumption
  rw [updB_ne hki, updV_ne hki]
  exact h.b k hk
 ·rw [updB_ne h4, updB_ne h5, updV_ne h4, updV_ne h5]; exact h.d
theorem LasD.call_ (h : LasD base n1 n2 st lo L rho w) {i : Nat} (hi : i = 1 ∨ i = 3) (hb : Below w.heap.size w w') (hbase : base ≤ w.heap.size) (hn1 : st.length = n1) (hn2 : lo.length = n2) {a a2 : Option Addr} {c c2 : Nat} (h1 : NumsNew w.heap.size w' a st) (h2 : NumsNew w.heap.size w' a2 lo) : LasD base n1 n2 st lo (updB L i) (updV rho i (.agg #[.slice a n1 c, .slice a2 n2 c2])) w' := by
 have far : ∀ j, j = 4 ∨ j = 5 → j ≠ i := fun j hj => by rcases hi with rfl | rfl <;> rcases hj with rfl | rfl <;> decide
 refine ⟨fun k hk => ?_, fun k hk => ?_, ?_⟩
 ·by_cases hki : k = i
  ·subst hki
   intro _
   refine ⟨a, c, a2, c2, updV_eq _ _, ⟨h1.1, fun ad had => Nat.le_trans hbase (h1.2 ad had)⟩, ⟨h2.1, fun ad had => Nat.le_trans hbase (h2.2 ad had)⟩, fun j hj => ?_⟩
   rw [updB_ne (far j hj), updV_ne (far j hj)]
   intro q g hg
   obtain ⟨g9, e1, _, r⟩ := h.b j hj q
   rw [hg] at e1
   cases e1
   have := r.lt
   exact ⟨fun _ ad had e => (by have := h1.2 ad had; omega), fun _ ad had e => (by have := h2.2 ad had; omega)⟩
  ·rw [updB_ne hki, updV_ne hki]
   intro q
   obtain ⟨a9, c9, a8, c8, e1, e2, e3, e4⟩ := h.p k hk q
   refine ⟨a9, c9, a8, c8, e1, ⟨e2.1.below hb, e2.2⟩, ⟨e3.1.below hb, e3.2⟩, fun j hj => ?_⟩
   rw [updB_ne (far j hj), updV_ne (far j hj)]
   exact e4 j hj
 ·rw [updB_ne (far k hk), updV_ne (far k hk)]
  intro q
  obtain ⟨g9, e1, e2, e3⟩ := h.b k hk q
  exact ⟨g9, e1, e2, e3.below hb⟩
 ·rw [updB_ne (far 4 (.inl rfl)), updB_ne (far 5 (.inr rfl)), updV_ne (far 4 (.inl rfl)), updV_ne (far 5 (.inr rfl))]; exact h.d
theorem LasD.box_ (h : LasD base n1 n2 st lo L rho w) {i : Nat} (hi : i = 4 ∨ i = 5) (hbase : base ≤ w.heap.size) (hn1 : st.length = n1) (hn2 : lo.length = n2) : LasD base n1 n2 st lo (updB L i) (updV rho i (.pointer (some ⟨w.heap.size, 0, none⟩))) (w.alloc (.cells #[.slice none 0 0, .slice none 0 0] 57)) := by
 have hb : Below w.heap.size w (w.alloc (.cells #[.slice none 0 0, .slice none 0 0] 57)) := balloc (Below.refl _ _) _
 have far : ∀ j, j = 1 ∨ j = 3 → j ≠ i := fun j hj => by rcases hi with rfl | rfl <;> rcases hj with rfl | rfl <;> decide
 refine ⟨fun k hk => ?_, fun k hk => ?_, ?_⟩
 ·rw [updB_ne (far k hk), updV_ne (far k hk)]
  intro q
  obtain ⟨a9, c9, a8, c8, e1, e2, e3, e4⟩ := h.p k hk q
  refine ⟨a9, c9, a8, c8, e1, ⟨e2.1.below hb, e2.2⟩, ⟨e3.1.below hb, e3.2⟩, fun j hj => ?_⟩
  by_cases hji : j = i
  ·subst hji
   rw [updV_eq]
   intro _ g hg
   cases hg
   exact ⟨fun h0 ad had e => (by have := (e2.lt (by omega) had).2; omega), fun h0 ad had e => (by have := (e3.lt (by omega) had).2; omega)⟩
  ·rw [updB_ne hji, updV_ne hji]
   exact e4 j hj
 ·by_cases hki : k = i
  ·subst hki
   intro _
   exact ⟨w.heap.size, updV_eq _ _, hbase, RowAt.new #[.slice none 0 0, .slice none 0 0] rfl⟩
  ·rw [updB_ne hki, updV_ne hki]
   intro q
   obtain ⟨g9, e1, e2, e3⟩ := h.b k hk q
   exact ⟨g9, e1, e2, e3.below hb⟩
 ·rcases hi with rfl | rfl
  ·rw [updB_ne (show 5 ≠ 4 by decide), updV_eq, updV_ne (show 5 ≠ 4 by decide)]
   intro _ q e
   obtain ⟨g9, e1, _, r⟩ := h.b 5 (.inr rfl) q
   rw [← e] at e1
   cases e1
   have := r.lt
   omega
  ·rw [updB_ne (show 4 ≠ 5 by decide), updV_eq, updV_ne (show 4 ≠ 5 by decide)]
   intro q _ e
   obtain ⟨g9, e1, _, r⟩ := h.b 4 (.inl rfl) q
   rw [e] at e1
   cases e1
   have := r.lt
   omega
end
def Kp.two (x : List Int × List Int) : Kp := ⟨fun v w => ∃ a c a2 c2, v = .tuple #[.slice a x.1.length c, .slice a2 x.2.length c2] ∧ NumsAt .i64 w a x.1 ∧ NumsAt .i64 w a2 x.2, fun v w w' h hb => by
 obtain ⟨a, c, a2, c2, h1, h2, h3⟩ := h
 exact ⟨a, c, a2, c2, h1, h2.below hb, h3.below hb⟩⟩
def Kp.nums (x : List Int) : Kp := ⟨fun v w => ∃ a c, v = .slice a x.length c ∧ NumsAt .i64 w a x, fun v w w' h hb => by
 obtain ⟨a, c, h1, h2⟩ := h
 exact ⟨a, c, h1, h2.below hb⟩⟩
def Kp.src (G : GR) (sets : List (List Bool)) : Kp := ⟨fun v w => SrcV w G sets v, fun _ _ _ h hb => SrcV.below h hb⟩
def Kp.new (G : GR) (sets : List (List Bool)) (A : AU) : Kp := ⟨fun v w => NewV w G sets A v, fun _ _ _ h hb => NewV.below h hb⟩
end Go.Proofs.Ytfcpfcgcfaacnaa
