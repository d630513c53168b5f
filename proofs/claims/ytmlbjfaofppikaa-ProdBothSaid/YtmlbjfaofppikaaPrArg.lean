/- The chapter's example: one node that goes to itself, and one that reads all. No conditions. How arguments that are pairs, and arrays of two pairs, are opened. No conditions. -/
import Derived.Test.YtmlbjfaofppikaaPrNew
import Derived.Test.YtmlbjfaofppikaaPrNext
import Derived.Test.YtmlbjfaofppikaaPrRin
namespace Go.Proofs.Ytmlbjfaofppikaa
open Go.RowKit

def exG : GR := ⟨[0], [[(0, 4)]], [0]⟩
def exA : AU := ⟨1, [0], [⟨0, 0, 1, [0]⟩]⟩
theorem exLt : Lt exG [] exA := lightB_lt (by decide)
theorem exOk : AuOk exA := ⟨by decide, by intro x hx; simp [exA] at hx; subst hx; decide, by decide, by decide, by intro x hx; simp [exA] at hx; subst hx; refine ⟨by decide, by decide, by decide, by decide, ?_⟩; intro t ht; simp at ht; subst ht; decide⟩
theorem exGOk : GOk exG := ⟨by intro x hx; simp [exG] at hx; subst hx; unfold u64ok; decide, by intro l hl; simp [exG] at hl; subst hl; decide, by decide, by decide, by decide⟩
theorem ex_src : srcB exG [] = true := by decide
theorem ex_new : newB exG [] exA = true := by decide
theorem ex_first : firstP exG exA = [⟨0, 0, 0⟩] := by decide
theorem ex_next : nextP exG [] exA ⟨0, 0, 0⟩ = [⟨0, 0, 0⟩] := by decide
theorem ex_in : inP exG [] exA ⟨0, 0, 0⟩ = true := by decide
theorem ex_edge : edgeP exG [] exA ⟨0, 0, 0⟩ ⟨0, 0, 0⟩ = some (0, 4) := by decide
/-- the example in memory -/
theorem ex_mem (w : World) : ∃ w9, w9 = ((((((((w.alloc (.cells #[.int .i64 0] TyI)).alloc (.cells #[.int .i64 0, .int .i64 4] TE)).alloc (.cells #[.slice (some ⟨w.heap.size + 1, 0, none⟩) 1 1] TEs)).alloc (.cells #[.int .u64 0] TU)).alloc (.cells #[.slice (some ⟨w.heap.size, 0, none⟩) 1 1, .slice (some ⟨w.heap.size + 2, 0, none⟩) 1 1, .slice (some ⟨w.heap.size + 3, 0, none⟩) 1 1] TG)).alloc (.cells #[.int .i64 0] TyI)).alloc (.cells #[.int .i64 0] TyI)).alloc (.cells #[.int .u64 0, .int .u64 0, .int .u64 1, .slice (some ⟨w.heap.size + 6, 0, none⟩) 1 1] TN)).alloc (.cells #[.int .i64 1, .slice (some ⟨w.heap.size + 5, 0, none⟩) 1 1, .slice (some ⟨w.heap.size + 7, 0, none⟩) 1 1] TA) ∧
    Below w.heap.size w w9 ∧ w9.heap.size = w.heap.size + 9 ∧ GAt w9 (some ⟨w.heap.size, 0, none⟩) (some ⟨w.heap.size + 2, 0, none⟩) (some ⟨w.heap.size + 3, 0, none⟩) exG ∧ AuAt w9 (some ⟨w.heap.size + 5, 0, none⟩) exA.init.length (some ⟨w.heap.size + 7, 0, none⟩) exA.nodes.length exA ∧
    RowAt w9 (w.heap.size + 4) TG [.slice (some ⟨w.heap.size, 0, none⟩) 1 1, .slice (some ⟨w.heap.size + 2, 0, none⟩) 1 1, .slice (some ⟨w.heap.size + 3, 0, none⟩) 1 1] ∧ RowAt w9 (w.heap.size + 8) TA [.int .i64 1, .slice (some ⟨w.heap.size + 5, 0, none⟩) 1 1, .slice (some ⟨w.heap.size + 7, 0, none⟩) 1 1] := by
  refine ⟨_, rfl, balloc (balloc (balloc (balloc (balloc (balloc (balloc (balloc (balloc (Below.refl _ _) _) _) _) _) _) _) _) _) _, by simp, ⟨?_, ?_, ?_⟩, ⟨rfl, rfl, ?_, ?_⟩, ?_, ?_⟩
  · exact ((((((((nums_new rfl #[.int .i64 0] [0] rfl).alloc _).alloc _).alloc _).alloc _).alloc _).alloc _).alloc _).alloc _
  · intro _
    have r1 := (((((((RowAt.new (w := w.alloc (.cells #[.int .i64 0] TyI)) (T := TE) (n := w.heap.size + 1) #[.int .i64 0, .int .i64 4] (by simp)).alloc (.cells #[.slice (some ⟨w.heap.size + 1, 0, none⟩) 1 1] TEs)).alloc (.cells #[.int .u64 0] TU)).alloc (.cells #[.slice (some ⟨w.heap.size, 0, none⟩) 1 1, .slice (some ⟨w.heap.size + 2, 0, none⟩) 1 1, .slice (some ⟨w.heap.size + 3, 0, none⟩) 1 1] TG)).alloc (.cells #[.int .i64 0] TyI)).alloc (.cells #[.int .i64 0] TyI)).alloc (.cells #[.int .u64 0, .int .u64 0, .int .u64 1, .slice (some ⟨w.heap.size + 6, 0, none⟩) 1 1] TN)).alloc (.cells #[.int .i64 1, .slice (some ⟨w.heap.size + 5, 0, none⟩) 1 1, .slice (some ⟨w.heap.size + 7, 0, none⟩) 1 1] TA)
    have r2 := ((((((RowAt.new (w := (w.alloc (.cells #[.int .i64 0] TyI)).alloc (.cells #[.int .i64 0, .int .i64 4] TE)) (T := TEs) (n := w.heap.size + 2) #[.slice (some ⟨w.heap.size + 1, 0, none⟩) 1 1] (by simp)).alloc (.cells #[.int .u64 0] TU)).alloc (.cells #[.slice (some ⟨w.heap.size, 0, none⟩) 1 1, .slice (some ⟨w.heap.size + 2, 0, none⟩) 1 1, .slice (some ⟨w.heap.size + 3, 0, none⟩) 1 1] TG)).alloc (.cells #[.int .i64 0] TyI)).alloc (.cells #[.int .i64 0] TyI)).alloc (.cells #[.int .u64 0, .int .u64 0, .int .u64 1, .slice (some ⟨w.heap.size + 6, 0, none⟩) 1 1] TN)).alloc (.cells #[.int .i64 1, .slice (some ⟨w.heap.size + 5, 0, none⟩) 1 1, .slice (some ⟨w.heap.size + 7, 0, none⟩) 1 1] TA)
    refine ⟨w.heap.size + 2, 0, rfl, fun i hi => ?_⟩
    have hi0 : i = 0 := by simp [exG] at hi; exact hi
    subst hi0
    refine ⟨some ⟨w.heap.size + 1, 0, none⟩, 1, r2.cell 0, Nat.le_refl _, fun _ => ⟨w.heap.size + 1, 0, rfl, fun j hj => ?_⟩⟩
    have hj0 : j = 0 := by simp [exG] at hj; exact hj
    subst hj0
    exact ⟨r1.cell 0, r1.cell 1⟩
  · exact (((((nums_new (by simp) #[.int .u64 0] [0] rfl).alloc _).alloc _).alloc _).alloc _).alloc _
  · exact (((nums_new (by simp) #[.int .i64 0] [0] rfl).alloc _).alloc _).alloc _
  · intro _
    have r7 := (RowAt.new (w := ((((((w.alloc (.cells #[.int .i64 0] TyI)).alloc (.cells #[.int .i64 0, .int .i64 4] TE)).alloc (.cells #[.slice (some ⟨w.heap.size + 1, 0, none⟩) 1 1] TEs)).alloc (.cells #[.int .u64 0] TU)).alloc (.cells #[.slice (some ⟨w.heap.size, 0, none⟩) 1 1, .slice (some ⟨w.heap.size + 2, 0, none⟩) 1 1, .slice (some ⟨w.heap.size + 3, 0, none⟩) 1 1] TG)).alloc (.cells #[.int .i64 0] TyI)).alloc (.cells #[.int .i64 0] TyI)) (T := TN) (n := w.heap.size + 7) #[.int .u64 0, .int .u64 0, .int .u64 1, .slice (some ⟨w.heap.size + 6, 0, none⟩) 1 1] (by simp)).alloc (.cells #[.int .i64 1, .slice (some ⟨w.heap.size + 5, 0, none⟩) 1 1, .slice (some ⟨w.heap.size + 7, 0, none⟩) 1 1] TA)
    refine ⟨w.heap.size + 7, 0, rfl, fun i hi => ?_⟩
    have hi0 : i = 0 := by simp [exA] at hi; exact hi
    subst hi0
    exact ⟨r7.cell 0, r7.cell 1, r7.cell 2, some ⟨w.heap.size + 6, 0, none⟩, 1, r7.cell 3, ((nums_new (by simp) #[.int .i64 0] [0] rfl).alloc _).alloc _⟩
  · exact ((((RowAt.new #[_, _, _] (by simp)).alloc _).alloc _).alloc _).alloc _
  · exact RowAt.new #[_, _, _] (by simp)
set_option maxHeartbeats 4000000 in
theorem awake_true (w : World) : Calls Try.prog 9 #[] w fun e w' => e = .returned (.bool true) ∧ Below w.heap.size w w' := by
  obtain ⟨w9, hw9, hb9, hz9, hG, hA, rg, ra⟩ := ex_mem w
  have GC : Hid (∀ wr, Below w9.heap.size w9 wr → Calls Try.prog 10 #[.agg #[.slice (some ⟨w.heap.size, 0, none⟩) 1 1, .slice (some ⟨w.heap.size + 2, 0, none⟩) 1 1, .slice (some ⟨w.heap.size + 3, 0, none⟩) 1 1], .slice none 0 0] wr (SrcMade exG [] wr)) := (fun wr (hb : Below w9.heap.size w9 wr) => graph_any wr _ _ _ none 1 1 1 0 exG [] (hG.below hb) exGOk (SetsAt.nil _ _))
  have NC : Hid (∀ wr, Below w9.heap.size w9 wr → ∀ f, FxAt wr f exG (inbits exG.edges.length []) 0 → Calls Try.prog 13 #[.iface TFp (.pointer (some ⟨f, 0, none⟩)), .agg #[.int .i64 1, .slice (some ⟨w.heap.size + 5, 0, none⟩) 1 1, .slice (some ⟨w.heap.size + 7, 0, none⟩) 1 1]] wr (NewMade exG [] exA wr)) := (fun wr (hb : Below w9.heap.size w9 wr) f (hF : FxAt wr f exG (inbits exG.edges.length []) 0) => new_any wr _ _ 1 1 f exG [] exA hF ex_src exGOk (hA.below hb) exOk)
  obtain ⟨i0, hi0⟩ : ∃ b, b = w.heap.size := ⟨_, rfl⟩
  obtain ⟨e2, he2⟩ : ∃ b, b = w.heap.size + 2 := ⟨_, rfl⟩
  obtain ⟨l3, hl3⟩ : ∃ b, b = w.heap.size + 3 := ⟨_, rfl⟩
  obtain ⟨b4, hb4⟩ : ∃ b, b = w.heap.size + 4 := ⟨_, rfl⟩
  obtain ⟨i5, hi5⟩ : ∃ b, b = w.heap.size + 5 := ⟨_, rfl⟩
  obtain ⟨n7, hn7⟩ : ∃ b, b = w.heap.size + 7 := ⟨_, rfl⟩
  obtain ⟨b8, hb8⟩ : ∃ b, b = w.heap.size + 8 := ⟨_, rfl⟩
  rw [← he2, ← hl3] at GC
  rw [← hi5, ← hn7] at NC
  rw [← hb4, ← he2, ← hl3] at rg
  rw [← hb8, ← hi5, ← hn7] at ra
  have g0 : w9.cell? ⟨b4, 0, none⟩ = some (.slice (some ⟨w.heap.size, 0, none⟩) 1 1) := rg.cell 0
  have g1 : w9.cell? ⟨b4, 1, none⟩ = some (.slice (some ⟨e2, 0, none⟩) 1 1) := rg.cell 1
  have g2 : w9.cell? ⟨b4, 2, none⟩ = some (.slice (some ⟨l3, 0, none⟩) 1 1) := rg.cell 2
  have a0 : w9.cell? ⟨b8, 0, none⟩ = some (.int .i64 1) := ra.cell 0
  have a1 : w9.cell? ⟨b8, 1, none⟩ = some (.slice (some ⟨i5, 0, none⟩) 1 1) := ra.cell 1
  have a2 : w9.cell? ⟨b8, 2, none⟩ = some (.slice (some ⟨n7, 0, none⟩) 1 1) := ra.cell 2
  have NN : Hid (∀ wr, Calls Try.prog 13 #[.nilIface, .agg #[.int .i64 1, .slice (some ⟨i5, 0, none⟩) 1 1, .slice (some ⟨n7, 0, none⟩) 1 1]] wr fun e w' => e = .returned (.pointer none) ∧ Below wr.heap.size wr w') := (fun wr => new_nil wr (some ⟨i5, 0, none⟩) (some ⟨n7, 0, none⟩) 1 1 exA)
  have SB : Hid (∀ w', Below w9.heap.size w9 w' → w'.cell? ⟨b4, 0, none⟩ = some (.slice (some ⟨w.heap.size, 0, none⟩) 1 1) ∧ w'.cell? ⟨b4, 1, none⟩ = some (.slice (some ⟨e2, 0, none⟩) 1 1) ∧ w'.cell? ⟨b4, 2, none⟩ = some (.slice (some ⟨l3, 0, none⟩) 1 1) ∧ w'.cell? ⟨b8, 0, none⟩ = some (.int .i64 1) ∧ w'.cell? ⟨b8, 1, none⟩ = some (.slice (some ⟨i5, 0, none⟩) 1 1) ∧ w'.cell? ⟨b8, 2, none⟩ = some (.slice (some ⟨n7, 0, none⟩) 1 1)) := fun w' hb => ⟨bcell hb g0, bcell hb g1, bcell hb g2, bcell hb a0, bcell hb a1, bcell hb a2⟩
  have q8 : Hid (w.heap.size + 1 + 1 + 1 + 1 + 1 + 1 + 1 + 1 = b8) := by show _ = _; omega
  have q4 : Hid (w.heap.size + 1 + 1 + 1 + 1 = b4) := by show _ = _; omega
  have HW := Lib.hid hw9
  have HB := Lib.hid hb9
  clear hw9 hb9 hz9 hG hA rg ra hi0 he2 hl3 hb4 hi5 hn7 hb8
  go_enter Try.func9, Try.ntmps9
  go_wp2_with fail
  rw [← HW.out, q8.out, q4.out]
  clear HW q8 q4
  go_region_held3 (fun w' => w'.cell? ⟨b4, 0, none⟩ = some (.slice (some ⟨w.heap.size, 0, none⟩) 1 1) ∧ w'.cell? ⟨b4, 1, none⟩ = some (.slice (some ⟨e2, 0, none⟩) 1 1) ∧ w'.cell? ⟨b4, 2, none⟩ = some (.slice (some ⟨l3, 0, none⟩) 1 1) ∧ w'.cell? ⟨b8, 0, none⟩ = some (.int .i64 1) ∧ w'.cell? ⟨b8, 1, none⟩ = some (.slice (some ⟨i5, 0, none⟩) 1 1) ∧ w'.cell? ⟨b8, 2, none⟩ = some (.slice (some ⟨n7, 0, none⟩) 1 1)) (first | exact SB.out _ B2 | exact SB.out _ B1 | exact SB.out _ (Below.refl _ _) | exact SB.out _ (Below.refl _ _).drew) (first
    | (go_at_call 13; (with_reducible refine (NC.out _ B1 f hF).mono ?_); rintro e w3 ⟨hb3, h3⟩; replace h3 := Lib.hid h3; obtain ⟨p, rfl, hp⟩ : ∃ p, e = .returned (.pointer (some ⟨p, 0, none⟩)) ∧ Hid (PrAt w3 p exG [] exA) := (by rcases h3.out with ⟨_, p, h1, h2⟩ | ⟨h1, _⟩; exact ⟨p, h1, h2⟩; rw [ex_new] at h1; cases h1); have B2 : Below w9.heap.size w9 w3 := btrans B1 hb3)
    | (go_at_call 10; (with_reducible refine (GC.out _ (Below.refl _ _).drew).mono ?_); rintro e w2 ⟨hb2, h2⟩; replace h2 := Lib.hid h2; obtain ⟨f, rfl, hF⟩ : ∃ f, e = .returned (.iface TFp (.pointer (some ⟨f, 0, none⟩))) ∧ FxAt w2 f exG (inbits exG.edges.length []) 0 := (by rcases h2.out with ⟨_, f, h1, h2⟩ | ⟨h1, _⟩; exact ⟨f, h1, h2⟩; rw [ex_src] at h1; cases h1); have B1 : Below w9.heap.size w9 w2 := ⟨hb2.os, hb2.tape, hb2.output, hb2.size, hb2.block⟩))
  have FI : Hid (Calls Try.prog 14 #[.pointer (some ⟨p, 0, none⟩)] w3 fun e w' => ∃ a c, e = .returned (.slice a 1 c) ∧ OwnQ w' w3.heap.size TPP a c [⟨0, 0, 0⟩] ∧ Below w3.heap.size w3 w') := by
    have := first_any w3 p exG [] exA hp.out exLt
    rw [ex_first] at this
    exact this
  have ED : Hid (∀ w', Below w3.heap.size w3 w' → Calls Try.prog 17 #[.pointer (some ⟨p, 0, none⟩), .agg #[.int .i64 0, .int .i64 0, .int .i64 0], .agg #[.int .i64 0, .int .i64 0, .int .i64 0]] w' fun e w2 => e = .returned (.tuple #[.agg #[.int .i64 0, .int .i64 4], .bool true]) ∧ Below w'.heap.size w' w2) := fun w' hb => by
    have := edge_any w' p exG [] exA (hp.out.below hb) exLt ⟨0, 0, 0⟩ ⟨0, 0, 0⟩
    rw [ex_edge] at this
    exact this
  have IN : Hid (∀ w', Below w3.heap.size w3 w' → Calls Try.prog 16 #[.pointer (some ⟨p, 0, none⟩), .agg #[.int .i64 0, .int .i64 0, .int .i64 0]] w' fun e w2 => e = .returned (.bool true) ∧ Below w'.heap.size w' w2) := fun w' hb => by
    have := in_any w' p exG [] exA (hp.out.below hb) ⟨0, 0, 0⟩
    rw [ex_in] at this
    exact this
  have NX : Hid (∀ w', Below w3.heap.size w3 w' → Calls Try.prog 15 #[.pointer (some ⟨p, 0, none⟩), .agg #[.int .i64 0, .int .i64 0, .int .i64 0]] w' fun e w2 => ∃ a c, e = .returned (.slice a 1 c) ∧ Below w'.heap.size w' w2) := fun w' hb => by
    have := next_any w' p exG [] exA (hp.out.below hb) exLt ⟨0, 0, 0⟩
    rw [ex_next] at this
    exact this.mono fun e w2 ⟨a, c, h1, _, h2⟩ => ⟨a, c, h1, h2⟩
  have K3 := Lib.hid (btrans HB.out B2)
  have SB3 : Hid (∀ w', Below w3.heap.size w3 w' → w'.cell? ⟨b8, 0, none⟩ = some (.int .i64 1) ∧ w'.cell? ⟨b8, 1, none⟩ = some (.slice (some ⟨i5, 0, none⟩) 1 1) ∧ w'.cell? ⟨b8, 2, none⟩ = some (.slice (some ⟨n7, 0, none⟩) 1 1)) := fun w' hb => by
    obtain ⟨_, _, _, h1, h2, h3⟩ := SB.out w' (btrans B2 hb)
    exact ⟨h1, h2, h3⟩
  clear GC NC SB g0 g1 g2 a0 a1 a2 hF B1 B2 HB hb2 hb3 h2 h3
  go_wp2_with fail
  refine FI.out.mono ?_
  rintro e w4 ⟨q, c, rfl, hq, hb4⟩
  obtain ⟨g, rfl, hgl, x0, x1, x2⟩ : ∃ g, q = some ⟨g, 0, none⟩ ∧ g < w4.heap.size ∧ w4.cell? ⟨g, 0, none⟩ = some (.int .i64 0) ∧ w4.cell? ⟨g, 1, none⟩ = some (.int .i64 0) ∧ w4.cell? ⟨g, 2, none⟩ = some (.int .i64 0) := by
    obtain ⟨g, h1, _, h2, h3, h4, h5⟩ := hq.at 0 (by decide)
    exact ⟨g, h1, h2, h3, h4, h5⟩
  have hb4' := Lib.hid hb4
  clear hq hb4
  go_wp2_with fail
  refine (ED.out w4 hb4'.out).mono ?_
  rintro e w5 ⟨rfl, hb5⟩
  have y0 : w5.cell? ⟨g, 0, none⟩ = some (.int .i64 0) := bcell hb5 x0
  have y1 : w5.cell? ⟨g, 1, none⟩ = some (.int .i64 0) := bcell hb5 x1
  have y2 : w5.cell? ⟨g, 2, none⟩ = some (.int .i64 0) := bcell hb5 x2
  have hg5 : g < w5.heap.size := World.block_lt_of_cell? w5 _ y0
  have r5 : Hid (RowAt (w5.alloc (.cells #[.int .i64 0, .int .i64 4] TE)) w5.heap.size TE [.int .i64 0, .int .i64 4]) := RowAt.new #[_, _] rfl
  replace hb5 := Lib.hid (btrans hb4'.out hb5)
  have hb6 : Hid (Below w3.heap.size w3 (w5.alloc (.cells #[.int .i64 0, .int .i64 4] TE))) := balloc hb5.out _
  clear x0 x1 x2
  go_wp2_with fail
  refine (IN.out _ hb6.out).mono ?_
  rintro e w7 ⟨rfl, hb7⟩
  have z0 : w7.cell? ⟨g, 0, none⟩ = some (.int .i64 0) := bcell hb7 (bcell (balloc (Below.refl _ _) _) y0)
  have z1 : w7.cell? ⟨g, 1, none⟩ = some (.int .i64 0) := bcell hb7 (bcell (balloc (Below.refl _ _) _) y1)
  have z2 : w7.cell? ⟨g, 2, none⟩ = some (.int .i64 0) := bcell hb7 (bcell (balloc (Below.refl _ _) _) y2)
  have r7 := Lib.hid (r5.out.below hb7)
  replace hb7 := Lib.hid (btrans hb6.out hb7)
  clear y0 y1 y2
  go_wp2_with fail
  refine (NX.out _ hb7.out).mono ?_
  rintro e w8 ⟨a8, c8, rfl, hb8⟩
  have r8 := r7.out.below hb8
  have v0 : w8.cell? ⟨w5.heap.size, 0, none⟩ = some (.int .i64 0) := r8.cell 0
  have v1 : w8.cell? ⟨w5.heap.size, 1, none⟩ = some (.int .i64 4) := r8.cell 1
  replace hb8 := Lib.hid (btrans hb7.out hb8)
  replace r8 := Lib.hid r8
  obtain ⟨a0, a1, a2⟩ := SB3.out w8 hb8.out
  clear z0 z1 z2
  go_wp2_with fail
  refine (NN.out w8).mono ?_
  rintro e wL ⟨rfl, hbL⟩
  go_wp2
  go_ret
  exact ⟨rfl, btrans K3.out (btrans hb8.out hbL)⟩
end Go.Proofs.Ytmlbjfaofppikaa

namespace Go.Proofs.Ytmlbjfaofppikaa
open Go.RowKit Go.ChangeShapes Go.WideShapes Go.ChangeAt

theorem weights_mem_all {H : Type} {P : Program} {t : TypeId} : ∀ {ds : List (DataW H)} {i : Nat} {d : DataW H}, ds[i]? = some d → ∀ n ∈ d.weights P t, n ∈ DataW.weightsAll P t ds
  | d0 :: ds, 0, d, hd, n, hn => by
    simp only [List.getElem?_cons_zero, Option.some.injEq] at hd
    subst hd
    simp only [DataW.weightsAll, List.mem_append]
    exact Or.inl hn
  | d0 :: ds, i + 1, d, hd, n, hn => by
    simp only [DataW.weightsAll, List.mem_append]
    exact Or.inr (weights_mem_all (ds := ds) (i := i) (by simpa using hd) n hn)
def rPP : Rd PP := fun _ cs x => cs = [.int .i64 x.node, .int .i64 x.state, .int .i64 x.turn]
theorem opens_PP : Opens Try.prog TPP rPP := by
  intro H enc w fuel cs d ps hd hwt
  have hl := trod_struct_len Try.underlying32 hd
  have hc : Try.prog.cellsOf TPP = 3 := by kernel_rfl
  obtain ⟨c0, c1, c2, rfl⟩ := list3 (hl.trans hc)
  obtain ⟨x0, h0⟩ := opens_field Try.underlying32 0 0 1 _ rfl rfl (by kernel_rfl) (opens_int Try.underlying3) hd hwt
  obtain ⟨x1, h1⟩ := opens_field Try.underlying32 1 1 1 _ rfl rfl (by kernel_rfl) (opens_int Try.underlying3) hd hwt
  obtain ⟨x2, h2⟩ := opens_field Try.underlying32 2 2 1 _ rfl rfl (by kernel_rfl) (opens_int Try.underlying3) hd hwt
  simp only [List.drop_zero, List.drop_succ_cons, List.take_succ_cons, List.take_zero, rInt, List.cons.injEq, and_true] at h0 h1 h2
  exact ⟨⟨x0, x1, x2⟩, by rw [rPP, h0.1, h1.1, h2.1]⟩
abbrev TP2 : Nat := 33
def rP2 : Rd (PP × PP) := fun _ cs x => cs = [.int .i64 x.1.node, .int .i64 x.1.state, .int .i64 x.1.turn, .int .i64 x.2.node, .int .i64 x.2.state, .int .i64 x.2.turn]
theorem okWide_array {P : Program} {w : World} {r : Reach} {base : Nat} {t e : TypeId} {n : Nat} {v : Value} (ht : P.underlying t = some (.array n e)) (h : Value.okWide P w r base t v) : ∃ cs, v = .agg cs ∧ cs.size = P.cellsOf t := by
  simp only [Value.okWide, ht] at h
  obtain ⟨cs, h1, h2, _⟩ := h
  exact ⟨cs, h1, h2⟩
theorem list6 {α : Type} {l : List α} (h : l.length = 6) : ∃ a b c d e f, l = [a, b, c, d, e, f] := by
  match l, h with
  | [a, b, c, d, e, f], _ => exact ⟨a, b, c, d, e, f, rfl⟩
theorem opens_P2 : Opens Try.prog TP2 rP2 := by
  intro H enc w fuel cs d ps hd hwt
  obtain ⟨xs, n, rfl, hx, hlen, hxl, hf'⟩ := DataW.trod_array Try.underlying33 hd
  have hc : Try.prog.cellsOf TP2 = 6 := by kernel_rfl
  have hc3 : Try.prog.cellsOf TPP = 3 := by kernel_rfl
  obtain ⟨c0, c1, c2, c3, c4, c5, rfl⟩ := list6 (hlen.trans hc)
  simp only [Prod.mk.injEq] at hx
  obtain ⟨rfl, _⟩ := hx
  have one : ∀ i (hi : i < 2), ∃ x, rPP w (([c0, c1, c2, c3, c4, c5].drop (i * 3)).take 3) x := fun i hi => by
    have h1 := hf' i hi
    have hj : i < xs.length := by omega
    rw [List.getElem?_eq_getElem hj, hc3] at h1
    refine opens_PP H enc w n _ xs[i].1 xs[i].2 h1 ?_
    refine List.all_eq_true.2 fun k hk => List.all_eq_true.1 hwt k ?_
    simp only [DataW.weights, Try.underlying33]
    exact weights_mem_all (i := i) (by simp [List.getElem?_eq_getElem hj]) k hk
  obtain ⟨x, hx⟩ := one 0 (by decide)
  obtain ⟨y, hy⟩ := one 1 (by decide)
  simp [rPP] at hx hy
  refine ⟨(x, y), ?_⟩
  obtain ⟨rfl, rfl, rfl⟩ := hx
  obtain ⟨rfl, rfl, rfl⟩ := hy
  rfl
theorem open_arg_array {α H : Type} {enc : TypeId × Value → H} {P : Program} {W : World} {T e : TypeId} {n : Nat} {r : Reach} {base : Nat} {R : Rd α} {v : Value} {d : DataW H} {p : List MemPlace} (hT : P.underlying T = some (.array n e)) (O : Opens P T R) (hv : Value.okWide P W r base T v)
    (h : DataW.Trod enc P W 0 (fun _ => true) true T v d p) (hw : (d.weights P T).all (· ≤ reachBytes) = true) : ∃ x cs, v = .agg cs ∧ R W cs.toList x := by
  obtain ⟨cs, rfl, _⟩ := okWide_array hT hv
  obtain ⟨fuel, hf⟩ := h
  obtain ⟨x, hx⟩ := O H enc W fuel _ d p hf hw
  exact ⟨x, cs, rfl, by simpa [Value.cells] using hx⟩
end Go.Proofs.Ytmlbjfaofppikaa
