/- The chapter's automaton. No conditions. -/
import Derived.Test.YtjacphcnanopjaaDoorAtY
import Derived.Test.YtjacphcnanopjaaDoorAtM
import Derived.Deep.RegionHeld3
namespace Go.Proofs.YtjacphcnanopjaaDoor
open Go.Shelf Go.RowKit
set_option linter.unusedVariables false
set_option linter.unusedSimpArgs false

def exA : AU := ⟨1, [0], [⟨1, 2, 1, [0]⟩]⟩
theorem exOk : AuOk exA := ⟨by decide, by intro x hx; simp [exA] at hx; subst hx; decide, by decide, by decide, by intro x hx; simp [exA] at hx; subst hx; refine ⟨by decide, by decide, by decide, by decide, ?_⟩; intro t ht; simp at ht; subst ht; decide⟩
theorem exFew : AuFew exA := ⟨by decide, by decide, by intro x hx; simp [exA] at hx; subst hx; decide⟩
def OneV (w : World) (e : Ending) (w' : World) : Prop := ∃ ia ic na nc, e = .returned (.agg #[.int .i64 1, .slice ia 1 ic, .slice na 1 nc]) ∧ AuAt w' ia 1 na 1 exA ∧ Below w.heap.size w w'
set_option maxHeartbeats 2000000 in
theorem one_any (w : World) : Calls Tryd.prog 16 #[] w fun e w' => OneV w e w' := by
  obtain ⟨g, hg⟩ : ∃ g, g = w.heap.size := ⟨_, rfl⟩
  obtain ⟨w3, hw3⟩ : ∃ w3, w3 = (((w.alloc (.cells #[.int .i64 1, .slice (some ⟨g + 1, 0, none⟩) 1 1, .slice (some ⟨g + 1 + 1 + 1, 0, none⟩) 1 1] AUT)).alloc (.cells #[.int .i64 0] TInt)).alloc (.cells #[.int .i64 0] TInt)).alloc (.cells #[.int .u64 1, .int .u64 2, .int .u64 1, .slice (some ⟨g + 1 + 1, 0, none⟩) 1 1] TAn) := ⟨_, rfl⟩
  have hb3 : Below w.heap.size w w3 := by rw [hw3]; exact balloc (balloc (balloc (balloc (Below.refl _ _) _) _) _) _
  have rA : RowAt w3 g AUT [.int .i64 1, .slice (some ⟨g + 1, 0, none⟩) 1 1, .slice (some ⟨g + 1 + 1 + 1, 0, none⟩) 1 1] := by
    rw [hw3]
    exact (((RowAt.new (w := w) (T := AUT) #[.int .i64 1, .slice (some ⟨g + 1, 0, none⟩) 1 1, .slice (some ⟨g + 1 + 1 + 1, 0, none⟩) 1 1] hg).alloc _).alloc _).alloc _
  have n0 : NumsAt .i64 w3 (some ⟨g + 1, 0, none⟩) [0] := by
    rw [hw3]
    exact ((nums_new (by simp [hg]) #[.int .i64 0] [0] rfl).alloc _).alloc _
  have n1 : NumsAt .i64 w3 (some ⟨g + 1 + 1, 0, none⟩) [0] := by
    rw [hw3]
    exact (nums_new (by simp [hg]) #[.int .i64 0] [0] rfl).alloc _
  have r2 : RowAt w3 (g + 1 + 1 + 1) TAn [.int .u64 1, .int .u64 2, .int .u64 1, .slice (some ⟨g + 1 + 1, 0, none⟩) 1 1] := by
    rw [hw3]
    exact RowAt.new #[.int .u64 1, .int .u64 2, .int .u64 1, .slice (some ⟨g + 1 + 1, 0, none⟩) 1 1] (by simp [hg])
  have hAt : AuAt w3 (some ⟨g + 1, 0, none⟩) 1 (some ⟨g + 1 + 1 + 1, 0, none⟩) 1 exA := by
    refine ⟨rfl, rfl, n0, fun _ => ⟨g + 1 + 1 + 1, 0, rfl, fun i hi => ?_⟩⟩
    have hi0 : i = 0 := by simp [exA] at hi; exact hi
    subst hi0
    exact ⟨r2.cell 0, r2.cell 1, r2.cell 2, some ⟨g + 1 + 1, 0, none⟩, 1, r2.cell 3, n1⟩
  have c0 : w3.cell? ⟨g, 0, none⟩ = some (.int .i64 1) := rA.cell 0
  have c1 : w3.cell? ⟨g, 1, none⟩ = some (.slice (some ⟨g + 1, 0, none⟩) 1 1) := rA.cell 1
  have c2 : w3.cell? ⟨g, 2, none⟩ = some (.slice (some ⟨g + 1 + 1 + 1, 0, none⟩) 1 1) := rA.cell 2
  clear rA n0 n1 r2
  have HW := Lib.hid hw3
  have HA := Lib.hid hAt
  have HB := Lib.hid hb3
  have HG := Lib.hid hg
  have HC := Lib.hid (And.intro c0 (And.intro c1 c2))
  clear hw3 hAt hb3 hg c0 c1 c2
  go_enter Tryd.func16, Tryd.ntmps16
  go_wp2_with fail
  rw [← HG.out, ← HW.out]
  obtain ⟨c0, c1, c2⟩ := HC.out
  refine bodyPost_ret (v := .agg #[.int .i64 1, .slice (some ⟨g + 1, 0, none⟩) 1 1, .slice (some ⟨g + 1 + 1 + 1, 0, none⟩) 1 1]) (by simp [results, Tryd.results16, go_sem, c0, c1, c2]) rfl ⟨_, _, _, _, rfl, HA.out, HB.out⟩

theorem tx_one : textP exA = ([97, 117, 116, 111, 32, 49, 10, 105, 110, 105, 116, 32, 48, 10, 110, 111, 100, 101, 32, 43, 48, 32, 45, 49, 32, 64, 48, 32, 116, 111, 32, 48, 10], 0) := by kernel_rfl
theorem pa_one : parseP [97, 117, 116, 111, 32, 49, 10, 105, 110, 105, 116, 32, 48, 10, 110, 111, 100, 101, 32, 43, 48, 32, 45, 49, 32, 64, 48, 32, 116, 111, 32, 48, 10] = (exA, 0, 0) := by kernel_rfl
theorem pa_two : parseP [97, 117, 116, 111, 32, 48, 10, 105, 110, 105, 116, 32, 48, 10, 110, 111, 100, 101, 32, 45, 49, 32, 43, 48, 32, 116, 111, 10] = (au0, 2, 13) := by kernel_rfl
theorem pa_three : parseP [97, 117, 116, 111, 32, 48, 10, 105, 110, 105, 116, 32, 48, 10, 110, 111, 100, 101, 32, 43, 48, 32, 32, 116, 111, 10] = (au0, 2, 3) := by kernel_rfl
theorem tx_lit (w : World) (hd : Door w) (ia : Option Addr) (ic : Nat) (na : Option Addr) (nc : Nat) (h : AuAt w ia 1 na 1 exA) (q : Array UInt8) (hq : q = #[97, 117, 116, 111, 32, 49, 10, 105, 110, 105, 116, 32, 48, 10, 110, 111, 100, 101, 32, 43, 48, 32, 45, 49, 32, 64, 48, 32, 116, 111, 32, 48, 10]) : Calls Tryd.prog 10 #[.agg #[.int .i64 1, .slice ia 1 ic, .slice na 1 nc]] w fun e w' => e = .returned (.tuple #[.string ⟨q⟩, .int .i64 0]) ∧ Below w.heap.size w w' := by
  have h1 := text_any w hd ia na ic nc exA h exOk exFew
  unfold TextV at h1
  rw [tx_one] at h1
  subst hq
  exact h1
def PoneV (w : World) (e : Ending) (w' : World) : Prop := ∃ ia ic na nc, e = .returned (.tuple #[.agg #[.int .i64 1, .slice ia 1 ic, .slice na 1 nc], .int .i64 0, .int .i64 0]) ∧ AuAt w' ia 1 na 1 exA ∧ Below w.heap.size w w'
def PnoV (c : Int) (w : World) (e : Ending) (w' : World) : Prop := ∃ ia ic na nc, e = .returned (.tuple #[.agg #[.int .i64 0, .slice ia 0 ic, .slice na 0 nc], .int .i64 2, .int .i64 c]) ∧ Below w.heap.size w w'
theorem pa_lit (w : World) (hd : Door w) (q : Array UInt8) (hq : q = #[97, 117, 116, 111, 32, 49, 10, 105, 110, 105, 116, 32, 48, 10, 110, 111, 100, 101, 32, 43, 48, 32, 45, 49, 32, 64, 48, 32, 116, 111, 32, 48, 10]) : Calls Tryd.prog 12 #[.string ⟨q⟩] w fun e w' => PoneV w e w' := by
  have h1 := parse_any w hd ⟨q⟩ (by subst hq; exact of_decide_eq_true (by kernel_rfl))
  have e1 : parseP q.toList = (exA, 0, 0) := by subst hq; exact pa_one
  rw [show (⟨q⟩ : ByteArray).data.toList = q.toList from rfl, e1] at h1
  exact h1
theorem pb_lit (w : World) (hd : Door w) : Calls Tryd.prog 12 #[.string ⟨#[97, 117, 116, 111, 32, 48, 10, 105, 110, 105, 116, 32, 48, 10, 110, 111, 100, 101, 32, 45, 49, 32, 43, 48, 32, 116, 111, 10]⟩] w fun e w' => PnoV 13 w e w' := by
  have h1 := parse_any w hd ⟨#[97, 117, 116, 111, 32, 48, 10, 105, 110, 105, 116, 32, 48, 10, 110, 111, 100, 101, 32, 45, 49, 32, 43, 48, 32, 116, 111, 10]⟩ (of_decide_eq_true (by kernel_rfl))
  rw [show (⟨#[97, 117, 116, 111, 32, 48, 10, 105, 110, 105, 116, 32, 48, 10, 110, 111, 100, 101, 32, 45, 49, 32, 43, 48, 32, 116, 111, 10]⟩ : ByteArray).data.toList = [97, 117, 116, 111, 32, 48, 10, 105, 110, 105, 116, 32, 48, 10, 110, 111, 100, 101, 32, 45, 49, 32, 43, 48, 32, 116, 111, 10] from rfl, pa_two] at h1
  exact h1.mono fun e w' ⟨ia, ic, na, nc, h1, _, h2⟩ => ⟨ia, ic, na, nc, h1, h2⟩
theorem pc_lit (w : World) (hd : Door w) : Calls Tryd.prog 12 #[.string ⟨#[97, 117, 116, 111, 32, 48, 10, 105, 110, 105, 116, 32, 48, 10, 110, 111, 100, 101, 32, 43, 48, 32, 32, 116, 111, 10]⟩] w fun e w' => PnoV 3 w e w' := by
  have h1 := parse_any w hd ⟨#[97, 117, 116, 111, 32, 48, 10, 105, 110, 105, 116, 32, 48, 10, 110, 111, 100, 101, 32, 43, 48, 32, 32, 116, 111, 10]⟩ (of_decide_eq_true (by kernel_rfl))
  rw [show (⟨#[97, 117, 116, 111, 32, 48, 10, 105, 110, 105, 116, 32, 48, 10, 110, 111, 100, 101, 32, 43, 48, 32, 32, 116, 111, 10]⟩ : ByteArray).data.toList = [97, 117, 116, 111, 32, 48, 10, 105, 110, 105, 116, 32, 48, 10, 110, 111, 100, 101, 32, 43, 48, 32, 32, 116, 111, 10] from rfl, pa_three] at h1
  exact h1.mono fun e w' ⟨ia, ic, na, nc, h1, _, h2⟩ => ⟨ia, ic, na, nc, h1, h2⟩
theorem same_one (w : World) (ia : Option Addr) (ic : Nat) (na : Option Addr) (nc : Nat) (h : AuAt w ia 1 na 1 exA) (ja : Option Addr) (jc : Nat) (ma : Option Addr) (mc : Nat) (h2 : AuAt w ja 1 ma 1 exA) : Calls Tryd.prog 14 #[.agg #[.int .i64 1, .slice ia 1 ic, .slice na 1 nc], .agg #[.int .i64 1, .slice ja 1 jc, .slice ma 1 mc]] w fun e w' => e = .returned (.bool true) ∧ Below w.heap.size w w' := by
  have h1 := same_any w ia na ja ma ic nc jc mc exA exA h h2 exOk exOk
  unfold SamV at h1
  rw [decide_eq_true rfl] at h1
  exact h1
set_option maxHeartbeats 8000000 in
theorem works_true (w : World) (hd : Door w) : Calls Tryd.prog 9 #[] w fun e w' => e = .returned (.bool true) ∧ Below w.heap.size w w' := by
  obtain ⟨q, hq⟩ : ∃ q : Array UInt8, q = #[97, 117, 116, 111, 32, 49, 10, 105, 110, 105, 116, 32, 48, 10, 110, 111, 100, 101, 32, 43, 48, 32, 45, 49, 32, 64, 48, 32, 116, 111, 32, 48, 10] := ⟨_, rfl⟩
  have hqe : (q.toList == [97, 117, 116, 111, 32, 49, 10, 105, 110, 105, 116, 32, 48, 10, 110, 111, 100, 101, 32, 43, 48, 32, 45, 49, 32, 64, 48, 32, 116, 111, 32, 48, 10]) = true := by subst hq; decide
  replace hq := Lib.hid hq
  replace hd := Lib.hid hd
  go_enter Tryd.func9, Tryd.ntmps9
  go_wp2_with fail
  refine (one_any w).mono ?_
  rintro e w1 ⟨i1, c1, n1, d1, rfl, h1, b1⟩
  replace b1 := Lib.hid b1
  replace h1 := Lib.hid h1
  go_wp2_with fail
  refine (tx_lit w1 (hd.out.below b1.out) i1 c1 n1 d1 h1.out q hq.out).mono ?_
  rintro e w2 ⟨rfl, b2⟩
  replace b2 := Lib.hid (btrans b1.out b2)
  clear b1 h1
  go_wp2_with fail
  refine (pa_lit w2 (hd.out.below b2.out) q hq.out).mono ?_
  rintro e w3 ⟨i3, c3, n3, d3, rfl, h3, b3⟩
  replace b3 := Lib.hid (btrans b2.out b3)
  replace h3 := Lib.hid h3
  clear b2
  go_wp2_with fail
  obtain ⟨g, hg⟩ : ∃ g, g = w3.heap.size := ⟨_, rfl⟩
  have r3 : RowAt (w3.alloc (.cells #[.int .i64 1, .slice i3 1 c3, .slice n3 1 d3] AUT)) g AUT [.int .i64 1, .slice i3 1 c3, .slice n3 1 d3] := RowAt.new #[.int .i64 1, .slice i3 1 c3, .slice n3 1 d3] hg
  have b4 : Below w.heap.size w (w3.alloc (.cells #[.int .i64 1, .slice i3 1 c3, .slice n3 1 d3] AUT)) := balloc b3.out _
  have h4 : AuAt (w3.alloc (.cells #[.int .i64 1, .slice i3 1 c3, .slice n3 1 d3] AUT)) i3 1 n3 1 exA := h3.out.below (balloc (Below.refl _ _) _)
  rw [← hg]
  clear b3 h3 hg
  generalize w3.alloc (.cells #[.int .i64 1, .slice i3 1 c3, .slice n3 1 d3] AUT) = w4 at r3 b4 h4 ⊢
  refine (pb_lit w4 (hd.out.below b4)).mono ?_
  rintro e w5 ⟨i5, c5, n5, d5, rfl, k5⟩
  have r5 := Lib.hid ((r3.below k5).alloc (.cells #[.int .i64 0, .slice i5 0 c5, .slice n5 0 d5] AUT))
  have b5 := Lib.hid (balloc (btrans b4 k5) (.cells #[.int .i64 0, .slice i5 0 c5, .slice n5 0 d5] AUT))
  have h5 := Lib.hid ((h4.below k5).below (balloc (Below.refl _ _) (.cells #[.int .i64 0, .slice i5 0 c5, .slice n5 0 d5] AUT)))
  clear r3 b4 h4 k5
  go_wp2_with fail
  refine (pc_lit _ (hd.out.below b5.out)).mono ?_
  rintro e w6 ⟨i6, c6, n6, d6, rfl, k6⟩
  have r6 := Lib.hid ((r5.out.below k6).alloc (.cells #[.int .i64 0, .slice i6 0 c6, .slice n6 0 d6] AUT))
  have b6 := Lib.hid (balloc (btrans b5.out k6) (.cells #[.int .i64 0, .slice i6 0 c6, .slice n6 0 d6] AUT))
  have h6 := Lib.hid ((h5.out.below k6).below (balloc (Below.refl _ _) (.cells #[.int .i64 0, .slice i6 0 c6, .slice n6 0 d6] AUT)))
  clear r5 b5 h5 k6
  go_upto_region 5 with (fail)
  have r7 := r6.out
  have b7 := b6.out
  have h7 := h6.out
  clear r6 b6 h6
  generalize w6.alloc (.cells #[.int .i64 0, .slice i6 0 c6, .slice n6 0 d6] AUT) = wX at r7 b7 h7 ⊢
  have x0 : wX.cell? ⟨g, 0, none⟩ = some (.int .i64 1) := r7.cell 0
  have x1 : wX.cell? ⟨g, 1, none⟩ = some (.slice i3 1 c3) := r7.cell 1
  have x2 : wX.cell? ⟨g, 2, none⟩ = some (.slice n3 1 d3) := r7.cell 2
  have CC : Hid (∀ v, Below wX.heap.size wX v → v.cell? ⟨g, 0, none⟩ = some (.int .i64 1) ∧ v.cell? ⟨g, 1, none⟩ = some (.slice i3 1 c3) ∧ v.cell? ⟨g, 2, none⟩ = some (.slice n3 1 d3)) := fun v hv => ⟨(r7.below hv).cell 0, (r7.below hv).cell 1, (r7.below hv).cell 2⟩
  replace h7 := Lib.hid h7
  replace b7 := Lib.hid b7
  clear r7 hqe
  obtain rfl := hq.out
  go_region_held3 (fun w' => w'.cell? ⟨g, 0, none⟩ = some (.int .i64 1) ∧ w'.cell? ⟨g, 1, none⟩ = some (.slice i3 1 c3) ∧ w'.cell? ⟨g, 2, none⟩ = some (.slice n3 1 d3)) (first | exact CC.out _ K2 | exact CC.out _ K1 | exact CC.out _ (Below.refl _ _).drew | exact CC.out _ (Below.refl _ _)) (first
    | (go_at_call 14; (with_reducible refine (same_one _ _ _ _ _ (h7.out.below K1) _ _ _ _ ho).mono ?_); rintro e w8 ⟨rfl, k8⟩; have K2 : Below wX.heap.size wX w8 := btrans K1 k8)
    | (go_at_call 16; (with_reducible refine (one_any _).mono ?_); rintro e w7 ⟨io, co, no, do_, rfl, ho, k7⟩; have K1 : Below wX.heap.size wX w7 := btrans (by first | exact (Below.refl _ _).drew | exact Below.refl _ _) k7))
  all_goals (
    have K := Lib.hid (btrans b7.out K2)
    clear CC
    go_wp2
    go_ret
    exact ⟨rfl, K.out⟩)
end Go.Proofs.YtjacphcnanopjaaDoor
