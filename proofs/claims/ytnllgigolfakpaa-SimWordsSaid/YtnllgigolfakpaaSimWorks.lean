/- The chapter's example is as it says. No conditions. -/
import Derived.Test.YtnllgigolfakpaaSimTwo
namespace Go.Proofs.Ytnllgigolfakpaa
open Go.RowKit

set_option maxHeartbeats 4000000 in
theorem works_true (w : World) : Calls Try.prog 9 #[] w fun e w' => e = .returned (.bool true) ∧ Below w.heap.size w w' := by
  have DIR : Hid (∀ w' ai ci an cn, AuAt w' ai 2 an 2 exT → Calls Try.prog 11 #[.agg #[.int .i64 1, .slice ai 2 ci, .slice an 2 cn]] w' (GivesDir w' exT)) := fun w' ai ci an cn h => direct_any w' ai an ci cn exT h exTok
  have IS1 : Hid (∀ w' ai ci an cn a c, AuAt w' ai 2 an 2 exT → RowsAt w' a [[true, true], [false, true]] → Calls Try.prog 13 #[.agg #[.int .i64 1, .slice ai 2 ci, .slice an 2 cn], .slice a 2 c] w' fun e w'' => e = .returned (.bool true) ∧ Below w'.heap.size w' w'') := fun w' ai ci an cn a c h hr => (is_any w' ai an ci cn exT h exTok a c [[true, true], [false, true]] hr (by decide) (by intro l hl; simp at hl; rcases hl with rfl | rfl <;> decide)).mono fun e w'' ⟨b, he, hb, hw⟩ => by
    have : b = true := hb.2 exIs
    subst this
    exact ⟨he, hw⟩
  have IS2 : Hid (∀ w' ai ci an cn a c, AuAt w' ai 2 an 2 exT → RowsAt w' a [[true, true], [true, true]] → Calls Try.prog 13 #[.agg #[.int .i64 1, .slice ai 2 ci, .slice an 2 cn], .slice a 2 c] w' fun e w'' => e = .returned (.bool false) ∧ Below w'.heap.size w' w'') := fun w' ai ci an cn a c h hr => (is_any w' ai an ci cn exT h exTok a c [[true, true], [true, true]] hr (by decide) (by intro l hl; simp at hl; subst hl; decide)).mono fun e w'' ⟨b, he, hb, hw⟩ => by
    cases b with
    | true => exact absurd (hb.1 rfl) exNot
    | false => exact ⟨he, hw⟩
  have IS3 : Hid (∀ w' ai ci an cn, AuAt w' ai 2 an 2 exT → Calls Try.prog 13 #[.agg #[.int .i64 1, .slice ai 2 ci, .slice an 2 cn], .slice none 0 0] w' fun e w'' => e = .returned (.bool false) ∧ Below w'.heap.size w' w'') := fun w' ai ci an cn h => (is_any w' ai an ci cn exT h exTok none 0 [] (RowsAt.nil _ _) (by decide) (by intro l hl; simp at hl)).mono fun e w'' ⟨b, he, hb, hw⟩ => by
    cases b with
    | true => exact absurd (hb.1 rfl) exNil
    | false => exact ⟨he, hw⟩
  go_enter Try.func9, Try.ntmps9
  go_wp2_with fail
  refine (two_any _).mono ?_
  rintro e w1 ⟨ai, ci, an, cn, rfl, hA, hb1⟩
  go_wp2_with fail
  refine (DIR.out _ ai ci an cn hA).mono ?_
  rintro e w2 ⟨a2, c2, L, rfl, hD, hR, hb2⟩
  obtain rfl := exDir hD
  have hbw2 := Lib.hid (btrans hb1 hb2)
  simp only [List.length_cons, List.length_nil, Nat.zero_add, Nat.reduceAdd]
  have hR' : Hid (RowsAt w2 a2 [[true, true], [false, true]]) := hR
  have hbN : Below w2.heap.size w2 (((w2.alloc (.cells #[.bool true, .bool true] TB)).alloc (.cells #[.bool false, .bool true] TB)).alloc (.cells #[.slice (some ⟨w2.heap.size, 0, none⟩) 2 2, .slice (some ⟨w2.heap.size + 1, 0, none⟩) 2 2] 32)) := balloc (balloc (balloc (Below.refl _ _) _) _) _
  have EQ : Hid (Calls Try.prog 10 #[.slice a2 2 c2, .slice (some ⟨w2.heap.size + 1 + 1, 0, none⟩) 2 2] (((w2.alloc (.cells #[.bool true, .bool true] TB)).alloc (.cells #[.bool false, .bool true] TB)).alloc (.cells #[.slice (some ⟨w2.heap.size, 0, none⟩) 2 2, .slice (some ⟨w2.heap.size + 1, 0, none⟩) 2 2] 32)) fun e w' => e = .returned (.bool true) ∧ Quiet (((w2.alloc (.cells #[.bool true, .bool true] TB)).alloc (.cells #[.bool false, .bool true] TB)).alloc (.cells #[.slice (some ⟨w2.heap.size, 0, none⟩) 2 2, .slice (some ⟨w2.heap.size + 1, 0, none⟩) 2 2] 32)) w') := rows_yes _ a2 _ c2 2 [[true, true], [false, true]] (hR.below hbN) (rows_new w2 true true false true) (by decide) (by intro l hl; simp at hl; rcases hl with rfl | rfl <;> decide)
  have hbN2 := Lib.hid (btrans hbw2.out hbN)
  have hbN3 := Lib.hid hbN
  clear hA hb1 hb2 hD hR hbN DIR
  go_wp2_with fail
  refine EQ.out.mono ?_
  rintro e w3 ⟨rfl, hq3⟩
  have hb3 := Lib.hid (btrans hbN2.out (hq3.below _))
  have hr3 := Lib.hid (hR'.out.below (btrans hbN3.out (hq3.below _)))
  clear hq3 EQ hbN2 hbN3
  go_wp2_with fail
  refine (two_any _).mono ?_
  rintro e w4 ⟨ai4, ci4, an4, cn4, rfl, hA4, hb4⟩
  have hbw4 := Lib.hid (btrans hb3.out hb4)
  have hr4 := hr3.out.below hb4
  clear hb4
  go_wp2_with fail
  refine (IS1.out _ ai4 ci4 an4 cn4 a2 c2 hA4 hr4).mono ?_
  rintro e w5 ⟨rfl, hb5⟩
  have hbw5 := Lib.hid (btrans hbw4.out hb5)
  clear hA4 hr4 hb5
  go_wp2_with fail
  refine (two_any _).mono ?_
  rintro e w6 ⟨ai6, ci6, an6, cn6, rfl, hA6, hb6⟩
  have hbw6 := Lib.hid (btrans hbw5.out hb6)
  have hbM : Below w6.heap.size w6 (((w6.alloc (.cells #[.bool true, .bool true] TB)).alloc (.cells #[.bool true, .bool true] TB)).alloc (.cells #[.slice (some ⟨w6.heap.size, 0, none⟩) 2 2, .slice (some ⟨w6.heap.size + 1, 0, none⟩) 2 2] 32)) := balloc (balloc (balloc (Below.refl _ _) _) _) _
  have I2 := Lib.hid (IS2.out _ ai6 ci6 an6 cn6 _ 2 ((show AuAt w6 ai6 exT.init.length an6 exT.nodes.length exT from hA6).below hbM) (rows_new w6 true true true true))
  have hbM2 := Lib.hid (btrans hbw6.out hbM)
  clear hA6 hb6 hbM
  go_wp2_with fail
  refine I2.out.mono ?_
  rintro e w7 ⟨rfl, hb7⟩
  have hbw7 := Lib.hid (btrans hbM2.out hb7)
  clear I2 hb7
  go_wp2_with fail
  refine (two_any _).mono ?_
  rintro e w8 ⟨ai8, ci8, an8, cn8, rfl, hA8, hb8⟩
  have hbw8 := Lib.hid (btrans hbw7.out hb8)
  clear hb8
  go_wp2_with fail
  refine (IS3.out _ ai8 ci8 an8 cn8 hA8).mono ?_
  rintro e w9 ⟨rfl, hb9⟩
  go_wp2
  go_ret
  exact ⟨rfl, btrans hbw8.out hb9⟩
end Go.Proofs.Ytnllgigolfakpaa
