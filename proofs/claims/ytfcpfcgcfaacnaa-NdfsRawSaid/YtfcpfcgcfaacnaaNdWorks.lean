/- The law's examples hold. No conditions. -/
import Derived.Test.YtfcpfcgcfaacnaaNdOne
import Derived.Test.YtfcpfcgcfaacnaaEqInts
import Derived.Test.YtfcpfcgcfaacnaaFree
import Derived.Test.YtfcpfcgcfaacnaaNdNice
import Derived.BigRegion
namespace Go.Proofs.Ytfcpfcgcfaacnaa
open Go.RowKit

def zfound : List Value := [.int .i64 0, .int .i64 0, .int .i64 0, .int .i64 0, .int .i64 0, .slice none 0 0, .slice none 0 0]
def F1 : NF := ⟨2, 0, 1, 2, 1, [], [⟨0, 0, 0⟩]⟩
def F2 : NF := ⟨1, 0, 1, 1, 1, [], []⟩
def F3 : NF := ⟨3, 1, 0, 0, 0, [], []⟩
theorem list_getN {l : List Value} {n : Nat} (h : l.length = n) : l = (List.range n).map fun i => l.getD i undef := by
  refine List.ext_getElem (by simp [h]) fun i h1 h2 => ?_
  simp [List.getD, List.getElem?_eq_getElem h1]
theorem frame82 (arr : Array Value) (h : arr.size = 82) : ∃ q : Nat → Value, arr = #[q 0, q 1, q 2, q 3, q 4, q 5, q 6, q 7, q 8, q 9, q 10, q 11, q 12, q 13, q 14, q 15, q 16, q 17, q 18, q 19, q 20, q 21, q 22, q 23, q 24, q 25, q 26, q 27, q 28, q 29, q 30, q 31, q 32, q 33, q 34, q 35, q 36, q 37, q 38, q 39, q 40, q 41, q 42, q 43, q 44, q 45, q 46, q 47, q 48, q 49, q 50, q 51, q 52, q 53, q 54, q 55, q 56, q 57, q 58, q 59, q 60, q 61, q 62, q 63, q 64, q 65, q 66, q 67, q 68, q 69, q 70, q 71, q 72, q 73, q 74, q 75, q 76, q 77, q 78, q 79, q 80, q 81] := by
  refine ⟨fun i => arr.toList.getD i undef, ?_⟩
  have h1 := list_getN (l := arr.toList) (n := 82) (by simpa using h)
  apply Array.ext'
  exact h1
/-- the block of a found's loop -/
def lblk (v : Value) : Option Nat := match v with
  | .agg c => match c[6]? with
    | some (Value.slice (some ad) _ _) => some ad.block
    | _ => none
  | _ => none
/-- what each operation of the examples' region gives -/
structure wkV (B : World) (i : Nat) (v : Value) (w : World) : Prop where
  p1 : i = 0 → ∃ p, v = .pointer (some ⟨p, 0, none⟩) ∧ PrAt w p oG [] (oA 1)
  p0 : i = 3 ∨ i = 6 → ∃ p, v = .pointer (some ⟨p, 0, none⟩) ∧ PrAt w p oG [] (oA 0)
  b : i = 1 ∨ i = 4 → v = .agg #[.int .i64 9, .int .i64 9]
  b0 : i = 7 → v = .agg #[.int .i64 0, .int .i64 9]
  f1 : i = 2 → ∃ b, FoundAt w v F1 ∧ lblk v = some b ∧ b < w.heap.size
  f2 : i = 5 → FoundAt w v F2
  f3 : i = 8 → FoundAt w v F3
  z : 9 ≤ i → ∃ g, v = .pointer (some ⟨g, 0, none⟩) ∧ B.heap.size ≤ g ∧ RowAt w g TFd zfound
theorem wkV_keep (B : World) (i : Nat) (v : Value) (w w' : World) (h : wkV B i v w) (hb : Below w.heap.size w w') : wkV B i v w' where
  p1 := fun hi => by obtain ⟨p, h1, h2⟩ := h.p1 hi; exact ⟨p, h1, h2.below hb⟩
  p0 := fun hi => by obtain ⟨p, h1, h2⟩ := h.p0 hi; exact ⟨p, h1, h2.below hb⟩
  b := h.b
  b0 := h.b0
  f1 := fun hi => by obtain ⟨b, h1, h2, h3⟩ := h.f1 hi; exact ⟨b, h1.below hb, h2, Nat.lt_of_lt_of_le h3 hb.size⟩
  f2 := fun hi => (h.f2 hi).below hb
  f3 := fun hi => (h.f3 hi).below hb
  z := fun hi => by obtain ⟨g, h1, h2, h3⟩ := h.z hi; exact ⟨g, h1, h2, h3.below hb⟩
/-- an address of the call's own, made now -/
def newN (i : Nat) (w : World) (v : Value) : Prop := (9 ≤ i → v = .pointer (some ⟨w.heap.size, 0, none⟩)) ∧ (i = 2 → ∀ b, lblk v = some b → w.heap.size ≤ b)
def unlike (i j : Nat) (v u : Value) : Prop := (9 ≤ i → 9 ≤ j → v ≠ u) ∧ (i = 2 → 9 ≤ j → ∀ b, lblk v = some b → u ≠ .pointer (some ⟨b, 0, none⟩))
theorem wk_unlike (B : World) (i j : Nat) (v u : Value) (w : World) (hn : newN i w v) (hv : wkV B j u w) : unlike i j v u ∧ unlike j i u v := by
  have key : 9 ≤ i → 9 ≤ j → v ≠ u := fun h1 h2 e => by
    rw [hn.1 h1] at e
    obtain ⟨g, e2, _, h3⟩ := hv.z h2
    rw [e2] at e
    simp only [Value.pointer.injEq, Option.some.injEq, Addr.mk.injEq] at e
    have := h3.lt
    omega
  refine ⟨⟨key, fun h1 h2 b hb e => ?_⟩, fun h1 h2 e => key h2 h1 e.symm, fun h1 h2 b hb e => ?_⟩
  · obtain ⟨g, e2, _, h3⟩ := hv.z h2
    rw [e2] at e
    simp only [Value.pointer.injEq, Option.some.injEq, Addr.mk.injEq] at e
    have := hn.2 h1 b hb
    have := h3.lt
    omega
  · obtain ⟨b', _, e2, h3⟩ := hv.f1 h1
    rw [e2] at hb
    have := Option.some.inj hb
    rw [hn.1 h2] at e
    simp only [Value.pointer.injEq, Option.some.injEq, Addr.mk.injEq] at e
    omega
theorem found1_blk {base : Nat} {w : World} {v : Value} (h : FoundNew base w v F1) : ∃ b, FoundAt w v F1 ∧ lblk v = some b ∧ b < w.heap.size ∧ base ≤ b := by
  obtain ⟨sa, sc, la, lc, h1, h2, h3, h4⟩ := h
  obtain ⟨b, off, hb, hlt, _⟩ := h3.at 0 (by decide)
  subst hb h1
  exact ⟨b, ⟨sa, sc, _, lc, rfl, h2.1, h3⟩, rfl, hlt, h4 _ rfl⟩
set_option maxRecDepth 20000 in
set_option maxHeartbeats 8000000 in
theorem works_true (W : World) : Calls Try.prog 10 #[] W fun e w' => e = .returned (.bool true) ∧ Below W.heap.size W w' := by
  obtain ⟨B, hB⟩ : ∃ B, B = W.alloc (.cells #[.int .i64 9, .int .i64 9] 34) := ⟨_, rfl⟩
  have bB : Below W.heap.size W B := by rw [hB]; exact balloc (Below.refl _ _) _
  have rB : RowAt B W.heap.size 34 [.int .i64 9, .int .i64 9] := by rw [hB]; exact RowAt.new #[.int .i64 9, .int .i64 9] rfl
  have hB2 := Lib.hid hB
  clear hB
  go_enter Try.func10, Try.ntmps10
  go_upto_region 2 with (fail)
  rw [← hB2.out]
  refine wp_region_free (by kernel_rfl) 12 (fun w => Below B.heap.size B w) (fun w w' => Below w.heap.size w w') (wkV B) newN unlike (fun i j v u w _ h1 h2 => wk_unlike B i j v u w h1 h2) (wkV_keep B) (by kernel_rfl) (by kernel_rfl) (by kernel_rfl) (Below.refl _ _).drew ?_ ?_
  · intro i hi
    match i, hi with
    | 0, _ =>
      intro o ho a w hR hF hD K hK
      simp only [List.getElem?_toArray, List.getElem?_cons_zero, Option.some.injEq] at ho
      subst ho
      go_simp
      refine (one_any w 1 (Or.inr rfl)).mono ?_
      rintro e w1 ⟨p, rfl, hb, hp⟩
      exact hK _ _ (btrans hR hb) hb ⟨fun h => absurd h (by decide), fun h => absurd h (by decide)⟩ ⟨fun _ => ⟨p, rfl, hp⟩, fun h => absurd h (by decide), fun h => absurd h (by decide), fun h => absurd h (by decide), fun h => absurd h (by decide), fun h => absurd h (by decide), fun h => absurd h (by decide), fun h => absurd h (by decide)⟩
    | 1, _ =>
      intro o ho a w hR hF hD K hK
      simp only [List.getElem?_toArray, List.getElem?_cons_zero, List.getElem?_cons_succ, Option.some.injEq] at ho
      subst ho
      have e1 : a.tmps.getD 1 undef = .pointer (some ⟨W.heap.size, 0, none⟩) := hF 1 (notDst_spec (by kernel_rfl))
      have c0 : w.cell? ⟨W.heap.size, 0, none⟩ = some (.int .i64 9) := (rB.below hR).cell 0
      have c1 : w.cell? ⟨W.heap.size, 1, none⟩ = some (.int .i64 9) := (rB.below hR).cell 1
      go_simp
      exact hK _ _ hR (Below.refl _ _) ⟨fun h => absurd h (by decide), fun h => absurd h (by decide)⟩ ⟨fun h => absurd h (by decide), fun h => absurd h (by decide), fun _ => rfl, fun h => absurd h (by decide), fun h => absurd h (by decide), fun h => absurd h (by decide), fun h => absurd h (by decide), fun h => absurd h (by decide)⟩
    | 2, _ =>
      intro o ho a w hR hF hD K hK
      simp only [List.getElem?_toArray, List.getElem?_cons_zero, List.getElem?_cons_succ, Option.some.injEq] at ho
      subst ho
      obtain ⟨p, e1, hp⟩ := (hD 0 (dep_spec (by kernel_rfl)) 8 rfl).p1 (by decide)
      have e2 := (hD 1 (dep_spec (by kernel_rfl)) 9 rfl).b (by decide)
      go_simp
      refine (search_made w p oG [] (oA 1) hp (oLt 1) (o_new 1 (Or.inr rfl)) 9 9).mono ?_
      rintro e w1 ⟨v, rfl, hb, hf⟩
      rw [ex1] at hf
      obtain ⟨b, hf1, hf2, hf3, hf4⟩ := found1_blk hf
      exact hK _ _ (btrans hR hb) hb ⟨fun h => absurd h (by decide), fun _ b' hb' => by rw [hf2] at hb'; cases hb'; exact hf4⟩ ⟨fun h => absurd h (by decide), fun h => absurd h (by decide), fun h => absurd h (by decide), fun h => absurd h (by decide), fun _ => ⟨b, hf1, hf2, hf3⟩, fun h => absurd h (by decide), fun h => absurd h (by decide), fun h => absurd h (by decide)⟩
    | 3, _ =>
      intro o ho a w hR hF hD K hK
      simp only [List.getElem?_toArray, List.getElem?_cons_zero, List.getElem?_cons_succ, Option.some.injEq] at ho
      subst ho
      go_simp
      refine (one_any w 0 (Or.inl rfl)).mono ?_
      rintro e w1 ⟨p, rfl, hb, hp⟩
      exact hK _ _ (btrans hR hb) hb ⟨fun h => absurd h (by decide), fun h => absurd h (by decide)⟩ ⟨fun h => absurd h (by decide), fun _ => ⟨p, rfl, hp⟩, fun h => absurd h (by decide), fun h => absurd h (by decide), fun h => absurd h (by decide), fun h => absurd h (by decide), fun h => absurd h (by decide), fun h => absurd h (by decide)⟩
    | 4, _ =>
      intro o ho a w hR hF hD K hK
      simp only [List.getElem?_toArray, List.getElem?_cons_zero, List.getElem?_cons_succ, Option.some.injEq] at ho
      subst ho
      have e1 : a.tmps.getD 1 undef = .pointer (some ⟨W.heap.size, 0, none⟩) := hF 1 (notDst_spec (by kernel_rfl))
      have c0 : w.cell? ⟨W.heap.size, 0, none⟩ = some (.int .i64 9) := (rB.below hR).cell 0
      have c1 : w.cell? ⟨W.heap.size, 1, none⟩ = some (.int .i64 9) := (rB.below hR).cell 1
      go_simp
      exact hK _ _ hR (Below.refl _ _) ⟨fun h => absurd h (by decide), fun h => absurd h (by decide)⟩ ⟨fun h => absurd h (by decide), fun h => absurd h (by decide), fun _ => rfl, fun h => absurd h (by decide), fun h => absurd h (by decide), fun h => absurd h (by decide), fun h => absurd h (by decide), fun h => absurd h (by decide)⟩
    | 5, _ =>
      intro o ho a w hR hF hD K hK
      simp only [List.getElem?_toArray, List.getElem?_cons_zero, List.getElem?_cons_succ, Option.some.injEq] at ho
      subst ho
      obtain ⟨p, e1, hp⟩ := (hD 3 (dep_spec (by kernel_rfl)) 11 rfl).p0 (by decide)
      have e2 := (hD 4 (dep_spec (by kernel_rfl)) 12 rfl).b (by decide)
      go_simp
      refine (search_made w p oG [] (oA 0) hp (oLt 0) (o_new 0 (Or.inl rfl)) 9 9).mono ?_
      rintro e w1 ⟨v, rfl, hb, hf⟩
      rw [ex2] at hf
      exact hK _ _ (btrans hR hb) hb ⟨fun h => absurd h (by decide), fun h => absurd h (by decide)⟩ ⟨fun h => absurd h (by decide), fun h => absurd h (by decide), fun h => absurd h (by decide), fun h => absurd h (by decide), fun h => absurd h (by decide), fun _ => hf.at, fun h => absurd h (by decide), fun h => absurd h (by decide)⟩
    | 6, _ =>
      intro o ho a w hR hF hD K hK
      simp only [List.getElem?_toArray, List.getElem?_cons_zero, List.getElem?_cons_succ, Option.some.injEq] at ho
      subst ho
      go_simp
      refine (one_any w 0 (Or.inl rfl)).mono ?_
      rintro e w1 ⟨p, rfl, hb, hp⟩
      exact hK _ _ (btrans hR hb) hb ⟨fun h => absurd h (by decide), fun h => absurd h (by decide)⟩ ⟨fun h => absurd h (by decide), fun _ => ⟨p, rfl, hp⟩, fun h => absurd h (by decide), fun h => absurd h (by decide), fun h => absurd h (by decide), fun h => absurd h (by decide), fun h => absurd h (by decide), fun h => absurd h (by decide)⟩
    | 7, _ =>
      intro o ho a w hR hF hD K hK
      simp only [List.getElem?_toArray, List.getElem?_cons_zero, List.getElem?_cons_succ, Option.some.injEq] at ho
      subst ho
      go_simp
      exact hK _ _ hR (Below.refl _ _) ⟨fun h => absurd h (by decide), fun h => absurd h (by decide)⟩ ⟨fun h => absurd h (by decide), fun h => absurd h (by decide), fun h => absurd h (by decide), fun _ => rfl, fun h => absurd h (by decide), fun h => absurd h (by decide), fun h => absurd h (by decide), fun h => absurd h (by decide)⟩
    | 8, _ =>
      intro o ho a w hR hF hD K hK
      simp only [List.getElem?_toArray, List.getElem?_cons_zero, List.getElem?_cons_succ, Option.some.injEq] at ho
      subst ho
      obtain ⟨p, e1, hp⟩ := (hD 6 (dep_spec (by kernel_rfl)) 14 rfl).p0 (by decide)
      have e2 := (hD 7 (dep_spec (by kernel_rfl)) 15 rfl).b0 (by decide)
      go_simp
      refine (search_made w p oG [] (oA 0) hp (oLt 0) (o_new 0 (Or.inl rfl)) 0 9).mono ?_
      rintro e w1 ⟨v, rfl, hb, hf⟩
      rw [ex3] at hf
      exact hK _ _ (btrans hR hb) hb ⟨fun h => absurd h (by decide), fun h => absurd h (by decide)⟩ ⟨fun h => absurd h (by decide), fun h => absurd h (by decide), fun h => absurd h (by decide), fun h => absurd h (by decide), fun h => absurd h (by decide), fun h => absurd h (by decide), fun _ => hf.at, fun h => absurd h (by decide)⟩
    | 9, _ =>
      intro o ho a w hR hF hD K hK
      simp only [List.getElem?_toArray, List.getElem?_cons_zero, List.getElem?_cons_succ, Option.some.injEq] at ho
      subst ho
      go_simp
      exact hK _ _ (balloc hR _) (balloc (Below.refl _ _) _) ⟨fun _ => rfl, fun h => absurd h (by decide)⟩ ⟨fun h => absurd h (by decide), fun h => absurd h (by decide), fun h => absurd h (by decide), fun h => absurd h (by decide), fun h => absurd h (by decide), fun h => absurd h (by decide), fun h => absurd h (by decide), fun _ => ⟨w.heap.size, rfl, hR.size, RowAt.new zfound.toArray rfl⟩⟩
    | 10, _ =>
      intro o ho a w hR hF hD K hK
      simp only [List.getElem?_toArray, List.getElem?_cons_zero, List.getElem?_cons_succ, Option.some.injEq] at ho
      subst ho
      go_simp
      exact hK _ _ (balloc hR _) (balloc (Below.refl _ _) _) ⟨fun _ => rfl, fun h => absurd h (by decide)⟩ ⟨fun h => absurd h (by decide), fun h => absurd h (by decide), fun h => absurd h (by decide), fun h => absurd h (by decide), fun h => absurd h (by decide), fun h => absurd h (by decide), fun h => absurd h (by decide), fun _ => ⟨w.heap.size, rfl, hR.size, RowAt.new zfound.toArray rfl⟩⟩
    | 11, _ =>
      intro o ho a w hR hF hD K hK
      simp only [List.getElem?_toArray, List.getElem?_cons_zero, List.getElem?_cons_succ, Option.some.injEq] at ho
      subst ho
      go_simp
      exact hK _ _ (balloc hR _) (balloc (Below.refl _ _) _) ⟨fun _ => rfl, fun h => absurd h (by decide)⟩ ⟨fun h => absurd h (by decide), fun h => absurd h (by decide), fun h => absurd h (by decide), fun h => absurd h (by decide), fun h => absurd h (by decide), fun h => absurd h (by decide), fun h => absurd h (by decide), fun _ => ⟨w.heap.size, rfl, hR.size, RowAt.new zfound.toArray rfl⟩⟩
    | k + 12, hk => omega
  · rintro ⟨tm, df⟩ w hdf hsz hF hR hV hU
    obtain rfl : df = [] := hdf
    obtain ⟨q, rfl⟩ := frame82 tm hsz
    have k1 : q 1 = .pointer (some ⟨W.heap.size, 0, none⟩) := hF 1 (notDst_spec (by kernel_rfl))
    obtain ⟨lb, ⟨sa1, sc1, la1, lc1, k10, ps1, pl1⟩, hlb, _⟩ := (hV 2 10 (by decide) rfl).f1 rfl
    obtain ⟨sa2, sc2, la2, lc2, k13, ps2, pl2⟩ := (hV 5 13 (by decide) rfl).f2 rfl
    obtain ⟨sa3, sc3, la3, lc3, k16, ps3, pl3⟩ := (hV 8 16 (by decide) rfl).f3 rfl
    obtain ⟨g2, k2, hg2, r2⟩ := (hV 9 2 (by decide) rfl).z (by decide)
    obtain ⟨g3, k3, hg3, r3⟩ := (hV 10 3 (by decide) rfl).z (by decide)
    obtain ⟨g4, k4, hg4, r4⟩ := (hV 11 4 (by decide) rfl).z (by decide)
    have v2 := (hU 2 9 10 2 (by decide) (by decide) (by decide) rfl rfl).2 rfl (by decide) lb hlb
    have v3 := (hU 2 10 10 3 (by decide) (by decide) (by decide) rfl rfl).2 rfl (by decide) lb hlb
    have v4 := (hU 2 11 10 4 (by decide) (by decide) (by decide) rfl rfl).2 rfl (by decide) lb hlb
    have u23 := (hU 9 10 2 3 (by decide) (by decide) (by decide) rfl rfl).1 (by decide) (by decide)
    have u24 := (hU 9 11 2 4 (by decide) (by decide) (by decide) rfl rfl).1 (by decide) (by decide)
    have u34 := (hU 10 11 3 4 (by decide) (by decide) (by decide) rfl rfl).1 (by decide) (by decide)
    replace k10 : q 10 = _ := k10
    replace k13 : q 13 = _ := k13
    replace k16 : q 16 = _ := k16
    replace k2 : q 2 = _ := k2
    replace k3 : q 3 = _ := k3
    replace k4 : q 4 = _ := k4
    replace u23 : q 2 ≠ q 3 := u23
    replace u24 : q 2 ≠ q 4 := u24
    replace u34 : q 3 ≠ q 4 := u34
    replace v2 : q 2 ≠ _ := v2
    replace v3 : q 3 ≠ _ := v3
    replace v4 : q 4 ≠ _ := v4
    replace hlb : lblk (q 10) = _ := hlb
    rw [k2] at v2
    rw [k3] at v3
    rw [k4] at v4
    rw [k10] at hlb
    rw [k2, k3] at u23
    rw [k2, k4] at u24
    rw [k3, k4] at u34
    have d23 : g2 ≠ g3 := fun e => u23 (by rw [e])
    have d24 : g2 ≠ g4 := fun e => u24 (by rw [e])
    have d34 : g3 ≠ g4 := fun e => u34 (by rw [e])
    have e2 : lb ≠ g2 := fun e => v2 (by rw [e])
    have e3 : lb ≠ g3 := fun e => v3 (by rw [e])
    have e4 : lb ≠ g4 := fun e => v4 (by rw [e])
    rw [k1, k2, k3, k4, k10, k13, k16]
    clear k1 k2 k3 k4 k10 k13 k16 v2 v3 v4 u23 u24 u34 hF hV hU hsz
    have hla : ∃ off pt, la1 = some ⟨lb, off, pt⟩ := by
      cases la1 with
      | none => cases hlb
      | some ad =>
        have h9 : some ad.block = some lb := hlb
        cases h9
        exact ⟨ad.off, _, rfl⟩
    clear hlb
    obtain ⟨off, pt, rfl⟩ := hla
    replace r2 : RowAt w g2 TFd [.int .i64 0, .int .i64 0, .int .i64 0, .int .i64 0, .int .i64 0, .slice none 0 0, .slice none 0 0] := r2
    replace r3 : RowAt w g3 TFd [.int .i64 0, .int .i64 0, .int .i64 0, .int .i64 0, .int .i64 0, .slice none 0 0, .slice none 0 0] := r3
    replace r4 : RowAt w g4 TFd [.int .i64 0, .int .i64 0, .int .i64 0, .int .i64 0, .int .i64 0, .slice none 0 0, .slice none 0 0] := r4
    have hbw := Lib.hid (btrans bB hR)
    clear hR rB
    rw [show (Value.agg (fcells F1 sa1 sc1 (some ⟨lb, off, pt⟩) lc1).toArray) = .agg #[.int .i64 2, .int .i64 0, .int .i64 1, .int .i64 2, .int .i64 1, .slice sa1 0 sc1, .slice (some ⟨lb, off, pt⟩) 1 lc1] from rfl, show (Value.agg (fcells F2 sa2 sc2 la2 lc2).toArray) = .agg #[.int .i64 1, .int .i64 0, .int .i64 1, .int .i64 1, .int .i64 1, .slice sa2 0 sc2, .slice la2 0 lc2] from rfl, show (Value.agg (fcells F3 sa3 sc3 la3 lc3).toArray) = .agg #[.int .i64 3, .int .i64 1, .int .i64 0, .int .i64 0, .int .i64 0, .slice sa3 0 sc3, .slice la3 0 lc3] from rfl]
    change wpAny _ _ _ _ 3 _ _ _
    have LW := r2.lt
    have f0 := r2.free 0
    have c0 := r2.cell 0
    have f1 := r2.free 1
    have c1 := r2.cell 1
    have f2 := r2.free 2
    have c2 := r2.cell 2
    have f3 := r2.free 3
    have c3 := r2.cell 3
    have f4 := r2.free 4
    have c4 := r2.cell 4
    have f5 := r2.free 5
    have c5 := r2.cell 5
    have f6 := r2.free 6
    have c6 := r2.cell 6
    simp only [List.getElem?_cons_zero, List.getElem?_cons_succ] at c0 c1 c2 c3 c4 c5 c6
    refine wpAny_ready (rs := [12]) (by kernel_rfl) (by simp) ?_
    refine AllReady.cons (i := 12) rfl (fun K hK => ?_) AllReady.nil
    go_simp
    refine hK _ _ ?_
    clear hK K f0 c0 f1 c1 f2 c2 f3 c3 f4 c4 f5 c5 f6 c6
    have s2 := store7 r2 (.int .i64 2) (.int .i64 0) (.int .i64 1) (.int .i64 2) (.int .i64 1) (.slice sa1 0 sc1) (.slice (some ⟨lb, off, pt⟩) 1 lc1)
    have K2 := keep7 w g2 (.int .i64 2) (.int .i64 0) (.int .i64 1) (.int .i64 2) (.int .i64 1) (.slice sa1 0 sc1) (.slice (some ⟨lb, off, pt⟩) 1 lc1)
    obtain ⟨w2, hw2⟩ : ∃ x, x = (((((((w.setCell ⟨g2, 0, none⟩ (.int .i64 2)).setCell ⟨g2, 1, none⟩ (.int .i64 0)).setCell ⟨g2, 2, none⟩ (.int .i64 1)).setCell ⟨g2, 3, none⟩ (.int .i64 2)).setCell ⟨g2, 4, none⟩ (.int .i64 1)).setCell ⟨g2, 5, none⟩ (.slice sa1 0 sc1)).setCell ⟨g2, 6, none⟩ (.slice (some ⟨lb, off, pt⟩) 1 lc1)) := ⟨_, rfl⟩
    rw [← hw2] at s2 K2 ⊢
    replace r3 := r3.keeps K2 (fun e => absurd e (by first | exact d23 | exact d24 | exact d34 | exact d23.symm | exact d24.symm | exact d34.symm))
    replace r4 := r4.keeps K2 (fun e => absurd e (by first | exact d23 | exact d24 | exact d34 | exact d23.symm | exact d24.symm | exact d34.symm))
    replace pl1 := pl1.keeps K2 (fun ad had => by cases had; exact e2)
    have hb2 := K2.below hbw.out (fun j e => by have := bB.size; omega)
    clear hw2 K2
    have f0 := r3.free 0
    have c0 := r3.cell 0
    have f1 := r3.free 1
    have c1 := r3.cell 1
    have f2 := r3.free 2
    have c2 := r3.cell 2
    have f3 := r3.free 3
    have c3 := r3.cell 3
    have f4 := r3.free 4
    have c4 := r3.cell 4
    have f5 := r3.free 5
    have c5 := r3.cell 5
    have f6 := r3.free 6
    have c6 := r3.cell 6
    simp only [List.getElem?_cons_zero, List.getElem?_cons_succ] at c0 c1 c2 c3 c4 c5 c6
    refine wpAny_ready (rs := [13]) (by kernel_rfl) (by simp) ?_
    refine AllReady.cons (i := 13) rfl (fun K hK => ?_) AllReady.nil
    go_simp
    refine hK _ _ ?_
    clear hK K f0 c0 f1 c1 f2 c2 f3 c3 f4 c4 f5 c5 f6 c6
    have s3 := store7 r3 (.int .i64 1) (.int .i64 0) (.int .i64 1) (.int .i64 1) (.int .i64 1) (.slice sa2 0 sc2) (.slice la2 0 lc2)
    have K3 := keep7 w2 g3 (.int .i64 1) (.int .i64 0) (.int .i64 1) (.int .i64 1) (.int .i64 1) (.slice sa2 0 sc2) (.slice la2 0 lc2)
    obtain ⟨w3, hw3⟩ : ∃ x, x = (((((((w2.setCell ⟨g3, 0, none⟩ (.int .i64 1)).setCell ⟨g3, 1, none⟩ (.int .i64 0)).setCell ⟨g3, 2, none⟩ (.int .i64 1)).setCell ⟨g3, 3, none⟩ (.int .i64 1)).setCell ⟨g3, 4, none⟩ (.int .i64 1)).setCell ⟨g3, 5, none⟩ (.slice sa2 0 sc2)).setCell ⟨g3, 6, none⟩ (.slice la2 0 lc2)) := ⟨_, rfl⟩
    rw [← hw3] at s3 K3 ⊢
    replace r4 := r4.keeps K3 (fun e => absurd e (by first | exact d23 | exact d24 | exact d34 | exact d23.symm | exact d24.symm | exact d34.symm))
    replace s2 := s2.keeps K3 (fun e => absurd e (by first | exact d23 | exact d24 | exact d34 | exact d23.symm | exact d24.symm | exact d34.symm))
    replace pl1 := pl1.keeps K3 (fun ad had => by cases had; exact e3)
    have hb3 := K3.below hb2 (fun j e => by have := bB.size; omega)
    clear hw3 K3
    have f0 := r4.free 0
    have c0 := r4.cell 0
    have f1 := r4.free 1
    have c1 := r4.cell 1
    have f2 := r4.free 2
    have c2 := r4.cell 2
    have f3 := r4.free 3
    have c3 := r4.cell 3
    have f4 := r4.free 4
    have c4 := r4.cell 4
    have f5 := r4.free 5
    have c5 := r4.cell 5
    have f6 := r4.free 6
    have c6 := r4.cell 6
    simp only [List.getElem?_cons_zero, List.getElem?_cons_succ] at c0 c1 c2 c3 c4 c5 c6
    refine wpAny_ready (rs := [14]) (by kernel_rfl) (by simp) ?_
    refine AllReady.cons (i := 14) rfl (fun K hK => ?_) AllReady.nil
    go_simp
    refine hK _ _ ?_
    clear hK K f0 c0 f1 c1 f2 c2 f3 c3 f4 c4 f5 c5 f6 c6
    have s4 := store7 r4 (.int .i64 3) (.int .i64 1) (.int .i64 0) (.int .i64 0) (.int .i64 0) (.slice sa3 0 sc3) (.slice la3 0 lc3)
    have K4 := keep7 w3 g4 (.int .i64 3) (.int .i64 1) (.int .i64 0) (.int .i64 0) (.int .i64 0) (.slice sa3 0 sc3) (.slice la3 0 lc3)
    obtain ⟨w4, hw4⟩ : ∃ x, x = (((((((w3.setCell ⟨g4, 0, none⟩ (.int .i64 3)).setCell ⟨g4, 1, none⟩ (.int .i64 1)).setCell ⟨g4, 2, none⟩ (.int .i64 0)).setCell ⟨g4, 3, none⟩ (.int .i64 0)).setCell ⟨g4, 4, none⟩ (.int .i64 0)).setCell ⟨g4, 5, none⟩ (.slice sa3 0 sc3)).setCell ⟨g4, 6, none⟩ (.slice la3 0 lc3)) := ⟨_, rfl⟩
    rw [← hw4] at s4 K4 ⊢
    replace s2 := s2.keeps K4 (fun e => absurd e (by first | exact d23 | exact d24 | exact d34 | exact d23.symm | exact d24.symm | exact d34.symm))
    replace s3 := s3.keeps K4 (fun e => absurd e (by first | exact d23 | exact d24 | exact d34 | exact d23.symm | exact d24.symm | exact d34.symm))
    replace pl1 := pl1.keeps K4 (fun ad had => by cases had; exact e4)
    have hb4 := K4.below hb3 (fun j e => by have := bB.size; omega)
    clear hw4 K4
    refine ⟨by kernel_rfl, ?_⟩
    have pl := Lib.hid pl1
    have ONE : Hid (∀ v, Below w4.heap.size w4 v → Calls Try.prog 30 #[.int .u64 1] v fun e w' => ∃ p, e = .returned (.pointer (some ⟨p, 0, none⟩)) ∧ Below v.heap.size v w' ∧ PrAt w' p oG [] (oA 1)) := fun v hv => one_any v 1 (Or.inr rfl)
    have rr2 := Lib.hid s2
    have rr3 := Lib.hid s3
    have rr4 := Lib.hid s4
    replace hb4 := Lib.hid hb4
    have EQ := Lib.hid (fun v (a1 a2 : Option Addr) (n1 n2 c1 c2 : Nat) (xs ys : List Int) h1 h2 => eq_ints v a1 a2 n1 c1 n2 c2 xs ys h1 h2)
    clear s2 s3 s4 pl1 r2 r3 r4 ps1 ps2 ps3 pl2 pl3 hb2 hb3 hbw bB LW
    have CC : Hid (∀ v, Below w4.heap.size w4 v → v.cell? ⟨g2, 0, none⟩ = some (.int .i64 2) ∧ v.cell? ⟨g2, 1, none⟩ = some (.int .i64 0) ∧ v.cell? ⟨g2, 2, none⟩ = some (.int .i64 1) ∧ v.cell? ⟨g2, 3, none⟩ = some (.int .i64 2) ∧ v.cell? ⟨g2, 4, none⟩ = some (.int .i64 1) ∧ v.cell? ⟨g2, 5, none⟩ = some (.slice sa1 0 sc1) ∧ v.cell? ⟨g2, 6, none⟩ = some (.slice (some ⟨lb, off, pt⟩) 1 lc1)) := fun v hv => ⟨(rr2.out.below hv).cell 0, (rr2.out.below hv).cell 1, (rr2.out.below hv).cell 2, (rr2.out.below hv).cell 3, (rr2.out.below hv).cell 4, (rr2.out.below hv).cell 5, (rr2.out.below hv).cell 6⟩
    have AC : Hid (∀ v p, Below w4.heap.size w4 v → PrAt v p oG [] (oA 1) → Calls Try.prog 18 #[.pointer (some ⟨p, 0, none⟩), .agg #[.int .i64 2, .int .i64 0, .int .i64 1, .int .i64 2, .int .i64 1, .slice sa1 0 sc1, .slice (some ⟨lb, off, pt⟩) 1 lc1]] v fun e w' => Below v.heap.size v w' ∧ ∃ a c a2 c2, e = .returned (.tuple #[.slice a 0 c, .slice a2 1 c2]) ∧ NumsAt .i64 w' a2 [7]) := fun v p hb hp => by
      have h1 := actsOf_any v p oG [] (oA 1) hp (oLt 1) (.agg #[.int .i64 2, .int .i64 0, .int .i64 1, .int .i64 2, .int .i64 1, .slice sa1 0 sc1, .slice (some ⟨lb, off, pt⟩) 1 lc1]) F1 ⟨sa1, sc1, some ⟨lb, off, pt⟩, lc1, rfl, (by intro h; exact absurd h (by decide)), pl.out.below hb⟩ (by decide) (by decide)
      rw [show lassoActs (ndAct oG [] (oA 1)) F1.stem F1.loop = ([], [7]) from exA] at h1
      exact h1.mono fun e w' ⟨h1, a, c, a2, c2, h2, h3, h4⟩ => ⟨h1, a, c, a2, c2, h2, h4⟩
    go_wp2
    obtain ⟨x0, x1, x2, x3, x4, x5, x6⟩ := CC.out w4 (Below.refl _ _)
    go_region_held3 (fun w' => w'.cell? ⟨g2, 0, none⟩ = some (.int .i64 2) ∧ w'.cell? ⟨g2, 1, none⟩ = some (.int .i64 0) ∧ w'.cell? ⟨g2, 2, none⟩ = some (.int .i64 1) ∧ w'.cell? ⟨g2, 3, none⟩ = some (.int .i64 2) ∧ w'.cell? ⟨g2, 4, none⟩ = some (.int .i64 1) ∧ w'.cell? ⟨g2, 5, none⟩ = some (.slice sa1 0 sc1) ∧ w'.cell? ⟨g2, 6, none⟩ = some (.slice (some ⟨lb, off, pt⟩) 1 lc1)) (first | exact CC.out _ K2 | exact CC.out _ K1 | exact CC.out _ (Below.refl _ _).drew | exact CC.out _ (Below.refl _ _)) (first
      | (go_at_call 18; (with_reducible refine (AC.out _ p K1 hp.out).mono ?_); rintro e w6 ⟨hb6, a, c, a2, c2, rfl, hn⟩; have K2 : Below w4.heap.size w4 w6 := btrans K1 hb6)
      | (go_at_call 30; (with_reducible refine (ONE.out _ (Below.refl _ _).drew).mono ?_); rintro e w5 ⟨p, rfl, hb5, hp⟩; replace hp := Lib.hid hp; have K1 : Below w4.heap.size w4 w5 := ⟨hb5.os, hb5.tape, hb5.output, hb5.size, hb5.block⟩))
    have rk2 := rr2.out.below K2
    have rk3 := rr3.out.below K2
    have rk4 := rr4.out.below K2
    have y20 : w6.cell? ⟨g2, 0, none⟩ = some (.int .i64 2) := rk2.cell 0
    have y21 : w6.cell? ⟨g2, 1, none⟩ = some (.int .i64 0) := rk2.cell 1
    have y22 : w6.cell? ⟨g2, 2, none⟩ = some (.int .i64 1) := rk2.cell 2
    have y23 : w6.cell? ⟨g2, 3, none⟩ = some (.int .i64 2) := rk2.cell 3
    have y24 : w6.cell? ⟨g2, 4, none⟩ = some (.int .i64 1) := rk2.cell 4
    have y30 : w6.cell? ⟨g3, 0, none⟩ = some (.int .i64 1) := rk3.cell 0
    have y31 : w6.cell? ⟨g3, 1, none⟩ = some (.int .i64 0) := rk3.cell 1
    have y32 : w6.cell? ⟨g3, 2, none⟩ = some (.int .i64 1) := rk3.cell 2
    have y33 : w6.cell? ⟨g3, 3, none⟩ = some (.int .i64 1) := rk3.cell 3
    have y34 : w6.cell? ⟨g3, 4, none⟩ = some (.int .i64 1) := rk3.cell 4
    have y40 : w6.cell? ⟨g4, 0, none⟩ = some (.int .i64 3) := rk4.cell 0
    have y41 : w6.cell? ⟨g4, 1, none⟩ = some (.int .i64 1) := rk4.cell 1
    have y42 : w6.cell? ⟨g4, 2, none⟩ = some (.int .i64 0) := rk4.cell 2
    have y43 : w6.cell? ⟨g4, 3, none⟩ = some (.int .i64 0) := rk4.cell 3
    have y44 : w6.cell? ⟨g4, 4, none⟩ = some (.int .i64 0) := rk4.cell 4
    have y25 : w6.cell? ⟨g2, 5, none⟩ = some (.slice sa1 0 sc1) := rk2.cell 5
    have y26 : w6.cell? ⟨g2, 6, none⟩ = some (.slice (some ⟨lb, off, pt⟩) 1 lc1) := rk2.cell 6
    clear rk2 rk3 rk4 x0 x1 x2 x3 x4 x5 x6
    replace hn := Lib.hid hn
    replace K2 := Lib.hid K2
    go_wp2_with fail
    refine (EQ.out _ a2 (some ⟨w6.heap.size, 0, none⟩) 1 1 c2 1 [7] [7] (hn.out.below (balloc (Below.refl _ _) _)) (nums_new rfl #[.int .i64 7] [7] rfl) rfl rfl (by decide) (by decide)).mono ?_
    rintro e w7 ⟨rfl, hq7⟩
    have K7 := Lib.hid (btrans K2.out (btrans (balloc (Below.refl _ _) (.cells #[.int .i64 7] 3)) (hq7.below _)))
    clear hq7
    have LA : Hid (∀ v, Below w4.heap.size w4 v → Calls Try.prog 16 #[.agg #[.int .i64 2, .int .i64 0, .int .i64 1, .int .i64 2, .int .i64 1, .slice sa1 0 sc1, .slice (some ⟨lb, off, pt⟩) 1 lc1]] v fun e w' => Below v.heap.size v w' ∧ ∃ a c a2 c2, e = .returned (.agg #[.slice a 0 c, .slice a2 1 c2]) ∧ NumsAt .i64 w' a2 [0]) := fun v hb => by
      have h1 := lasso_any v (.agg #[.int .i64 2, .int .i64 0, .int .i64 1, .int .i64 2, .int .i64 1, .slice sa1 0 sc1, .slice (some ⟨lb, off, pt⟩) 1 lc1]) F1 ⟨sa1, sc1, some ⟨lb, off, pt⟩, lc1, rfl, (by intro h; exact absurd h (by decide)), pl.out.below hb⟩ (by decide) (by decide)
      exact h1.mono fun e w' ⟨v', h2, h1, a, c, a2, c2, h3, h4, h5⟩ => ⟨h1, a, c, a2, c2, by rw [h2, h3]; rfl, h5⟩
    obtain ⟨x0, x1, x2, x3, x4, x5, x6⟩ := CC.out w7 K7.out
    clear y20 y21 y22 y23 y24 y25 y26 y30 y31 y32 y33 y34 y40 y41 y42 y43 y44
    rw [show decide (([7] : List Int) = [7]) = true from rfl]
    go_wp2_with fail
    refine (LA.out _ K7.out).mono ?_
    rintro e w8 ⟨hb8, a8, c8, a9, c9, rfl, hn8⟩
    replace hn8 := Lib.hid hn8
    have K8 := Lib.hid (btrans K7.out hb8)
    clear hb8 x0 x1 x2 x3 x4 x5 x6
    have hfd : ∀ w, Sem.run Try.prog (Instr.field 57 (.agg #[.slice a8 0 c8, .slice a9 1 c9]) 1) w = Result.ok (.slice a9 1 c9) w := fun w => by kernel_rfl
    go_wp2_with fail
    refine (EQ.out _ a9 (some ⟨w8.heap.size, 0, none⟩) 1 1 c9 1 [0] [0] (hn8.out.below (balloc (Below.refl _ _) _)) (nums_new rfl #[.int .i64 0] [0] rfl) rfl rfl (by decide) (by decide)).mono ?_
    rintro e w9 ⟨rfl, hq9⟩
    have K9 := Lib.hid (btrans hb4.out (btrans K8.out (btrans (balloc (Below.refl _ _) (.cells #[.int .i64 0] 3)) (hq9.below _))))
    clear hq9
    rw [show decide (([0] : List Int) = [0]) = true from rfl]
    go_wp2
    go_ret
    exact ⟨rfl, K9.out⟩
end Go.Proofs.Ytfcpfcgcfaacnaa
