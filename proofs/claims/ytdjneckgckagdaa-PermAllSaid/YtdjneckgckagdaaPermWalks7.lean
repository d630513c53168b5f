/- The walk of the document's Unrank. Conditions: numbers of Go's int. -/
import Derived.Test.YtdjneckgckagdaaPermWalks6
namespace Go.Proofs.Ytdjneckgckagdaa
open Go.RowKit

theorem OwnN.below {k : IntKind} {w w' : World} {base e : Nat} {a : Option Addr} {n cap : Nat} {xs : List Int} (h : OwnN k w base e a n cap xs) (hb : Below w.heap.size w w') : OwnN k w' base e a n cap xs := by
  unfold OwnN at h ⊢
  refine ⟨h.1, ?_⟩
  rcases h.2 with hn | ⟨g, cap', cur, hv, hg, hh, r⟩
  · exact .inl hn
  · exact .inr ⟨g, cap', cur, hv, hg, by rw [hb.block g (Array.getElem?_eq_some_iff.1 hh).1]; exact hh, r⟩
theorem OwnN.lt {k : IntKind} {w : World} {base e : Nat} {a : Option Addr} {n cap : Nat} {xs : List Int} (h : OwnN k w base e a n cap xs) {j : Nat} (hj : (Value.slice a n cap).ownBlock = some j) : base ≤ j ∧ j < w.heap.size := World.ownsRow.lt h j hj

theorem cutA_some (x : Addr) (cap l sz : Nat) : ∃ ad, cutA (some x) cap l sz = some ad := by
  unfold cutA
  split
  · exact ⟨_, rfl⟩
  · exact ⟨_, rfl⟩

set_option maxHeartbeats 1000000 in
theorem runrank_any (w : World) (n k : Int) (hk : -9223372036854775808 ≤ k ∧ k ≤ 9223372036854775807) :
    Calls Try.prog 25 #[.int .i64 n, .int .i64 k] w (GivesInts (Perm.unrank n k) w) := by
  by_cases h0 : n < 0
  · have hf := Lib.hid (Perm.unrank_no (n := n) (k := k) (.inl h0))
    go_enter Try.func25, Try.ntmps25
    go_wp2
    go_ret
    exact gives_nil hf.out (Below.refl _ _)
  have h0' : decide (n < 0) = false := by simpa using h0
  by_cases h8 : 8 < n
  · have hf := Lib.hid (Perm.unrank_no (n := n) (k := k) (.inr (.inl h8)))
    go_enter Try.func25, Try.ntmps25
    go_wp2
    go_ret
    exact gives_nil hf.out (Below.refl _ _)
  have h8' : decide (8 < n) = false := by simpa using h8
  by_cases hk0 : k < 0
  · have hf := Lib.hid (Perm.unrank_no (n := n) (k := k) (.inr (.inr (.inl hk0))))
    go_enter Try.func25, Try.ntmps25
    go_wp2
    go_ret
    exact gives_nil hf.out (Below.refl _ _)
  have hk0' : decide (k < 0) = false := by simpa using hk0
  obtain ⟨N, rfl⟩ := Int.eq_ofNat_of_zero_le (show 0 ≤ n by omega)
  have hN : N ≤ 8 := by omega
  obtain ⟨F, hF⟩ : ∃ F, F = Perm.factN N := ⟨_, rfl⟩
  have M := fun w => fact_any w (N : Int) (by omega)
  rw [Int.toNat_natCast, ← hF] at M
  have MM := Lib.hid M
  have HF := Lib.hid hF
  clear M hF
  by_cases hkF : F ≤ k
  · have hf := Lib.hid (Perm.unrank_no (n := N) (k := k) (.inr (.inr (.inr (by rw [Int.toNat_natCast, ← HF.out]; exact hkF)))))
    go_enter Try.func25, Try.ntmps25
    go_wp2_with (go_at_call 33; refine (MM.out _).mono ?_; rintro e w9 ⟨rfl, rfl⟩)
    go_ret
    exact gives_nil hf.out (Below.refl _ _)
  have hkF' : decide (F ≤ k) = false := by simpa using hkF
  have hf := Lib.hid (Perm.unrank_yes (n := N) (k := k) hN (by omega) (by rw [← HF.out]; omega))
  have hkN : Hid (k < Perm.factN N) := by show _ < _; rw [← HF.out]; omega
  have hid := Lib.hid (idS_yes hN)
  go_enter Try.func25, Try.ntmps25
  go_wp2_with fail
  refine (MM.out _).mono ?_
  rintro e w9 ⟨rfl, rfl⟩
  go_wp2_with fail
  refine (rid_any _ _ (by omega)).mono ?_
  rintro e w1 ⟨aI, cI, he, hI, hb, hcI⟩
  rw [hid.out] at he hI hcI
  rw [Perm.idl_length] at he hcI
  subst he
  clear hkF hkF' MM HF
  go_wp2
  go_loopw [1, 5, 6, 7] (fun kv lv ov iv wr => ∃ (m : Nat) (kk : Int) (L out : List Int) (a aL : Option Addr) (cap cL : Nat), m ≤ N ∧ kv = .int .i64 kk ∧ lv = .slice aL m cL ∧ ov = .slice a (N - m) cap ∧ iv = .int .i64 ((N : Int) - (m : Int)) ∧ 0 ≤ kk ∧ kk ≤ k ∧ Hid (kk < Perm.factN m) ∧
      NumsAt .i64 wr aL L ∧ Hid (L.length = m) ∧ m ≤ cL ∧ OwnN .i64 wr w.heap.size 3 a (N - m) cap out ∧ Hid (∀ ad : Addr, aL = some ad → (Value.slice a (N - m) cap).ownBlock ≠ some ad.block) ∧ Below w.heap.size w wr ∧ Hid (out ++ Perm.unrF m L kk = Perm.unrF N (Perm.idl N) k)) (fun _ lv _ _ _ => match lv with | .slice _ m _ => m | _ => 0)
  case atStart => exact ⟨N, k, Perm.idl N, [], none, aI, 0, cI, Nat.le_refl _, rfl, rfl, by simp, by simp, by omega, by omega, hkN.out, hI, Perm.idl_length N, hcI, by rw [Nat.sub_self]; exact OwnN.nil _ _ _ _, by simp [Hid, Value.ownBlock], hb, rfl⟩
  case round =>
    obtain ⟨m, kk, L, out, a, aL, cap, cL, hm, rfl, rfl, rfl, rfl, hk0, hkk, hkm, hL, hLm, hcL, hoO, hne, hb, hs⟩ := hrel
    by_cases hlt : 0 < m
    · obtain ⟨j, rfl⟩ : ∃ j, m = j + 1 := ⟨m - 1, by omega⟩
      obtain ⟨f, hfa⟩ : ∃ f, f = Perm.factN j := ⟨_, rfl⟩
      have f1 := Perm.fact_pos j
      rw [← hfa] at f1
      have M2 : ∀ w (x : Int), x = (j : Int) → Calls Try.prog 33 #[.int .i64 x] w fun e w' => e = .returned (.int .i64 f) ∧ w = w' := fun w x hx => by
        subst hx
        have := fact_any w (j : Int) (by omega)
        rwa [Int.toNat_natCast, ← hfa] at this
      have MM := Lib.hid M2
      have kd0 : 0 ≤ kk / f := Int.ediv_nonneg hk0 (by omega)
      have kd1 : kk / f < (j : Int) + 1 := Int.ediv_lt_of_lt_mul (by omega) (by rw [Int.mul_comm]; have := hkm.out; simp only [Perm.factN] at this; rw [← hfa] at this; exact this)
      obtain ⟨c, hc⟩ := Int.eq_ofNat_of_zero_le kd0
      have hcj : c < j + 1 := by omega
      have km0 : 0 ≤ kk % f := Int.emod_nonneg _ (by omega)
      have km1 : kk % f < f := Int.emod_lt_of_pos _ (by omega)
      have km2 : kk % f ≤ kk := by have := Int.mul_ediv_add_emod kk f; have := Int.mul_nonneg (show 0 ≤ f by omega) kd0; omega
      have HF := Lib.hid hfa
      have HC := Lib.hid hc
      clear M2 hfa kd0 kd1
      obtain ⟨b, off, x, rfl, hx, hxx⟩ := hL.at c (by rw [hLm.out]; exact hcj)
      have hz := hb.size
      have hbz := World.block_lt_of_cell? wr _ hx
      simp only at hbz
      go_wp2_with (first
        | (go_at_call 33; refine (MM.out _ _ (by omega)).mono ?_; rintro e w9 ⟨rfl, rfl⟩)
        | (at_builtin; refine wp_app1x rfl _ _ 22 3 .i64 8 rfl Try.underlying22 Try.infoInt w.heap.size a (N - (j + 1)) cap out rfl (hoO.alloc _) wr.heap.size 1 x rfl (new_cell1 _ _ _) (by omega) (by omega) (by simp; omega) ?_))
      intro a' cap' w2 hoO2 hg hat
      have hb2 := bgrown (balloc hb _) hg hoO.block
      have hL2 : NumsAt .i64 w2 (some ⟨b, off, none⟩) L := (hL.alloc (.cells #[.int .i64 x] 3)).keep (fun ad had hlt => hg.block _ hlt (fun e => hne.out ad had e.symm))
      have hne2 : Hid ((Value.slice a' (N - (j + 1) + 1) cap').ownBlock ≠ some b) := by
        rcases hat with h | h
        · show _ ≠ _; rw [h]; exact hne.out _ rfl
        · show _ ≠ _; rw [h]; intro e; simp at e; omega
      clear hg hat hoO hL hx hb
      go_wp2
      obtain ⟨ad, had⟩ := cutA_some ⟨b, off, none⟩ cL (c + 1) 1
      have hcut := hL2.cut (l := c + 1) (cap := cL) (by rw [hLm.out]; omega)
      rw [had] at hcut
      have hs1 := fun w => run_cut_h (P := Try.prog) Try.underlying22 Try.sizeInt (some ⟨b, off, none⟩) (j + 1) cL c (kh := .i64) (H := (c : Int)) rfl (by omega) w
      have hs2 := fun w => run_cut_l (P := Try.prog) Try.underlying22 Try.sizeInt (some ⟨b, off, none⟩) (j + 1) cL (c + 1) (kl := .i64) (L := (c : Int) + 1) (by omega) (by omega) w
      rw [had] at hs2
      have HA := Lib.hid had
      clear had
      have q1 := Lib.hid (show (0 + c) * 8 ≤ 140737488355328 by omega)
      have q2 := Lib.hid (show 0 < 8 by omega)
      have q3 := Lib.hid (show (c + (j - c)) * 8 ≤ 140737488355328 by omega)
      have hbA := Lib.hid (fun (w5 : World) (hg : (w2.alloc (.cells #[] 3)).grownBy w5 (Value.slice (some ⟨w2.heap.size, 0, none⟩) 0 0).ownBlock) => bgrown (balloc (Below.refl w2.heap.size w2) _) hg (by intro k hk; simp [Value.ownBlock] at hk; omega))
      have hbB := Lib.hid (fun (w5 : World) (hg : (w2.alloc (.cells #[] 3)).drew.grownBy w5 (Value.slice (some ⟨w2.heap.size, 0, none⟩) 0 0).ownBlock) => bgrown (balloc (Below.refl w2.heap.size w2) _).drew hg (by intro k hk; simp [Value.ownBlock] at hk; omega))
      have hw2 : IntKind.i64.wrap ((c : Int) + 1) = (c : Int) + 1 := IntWalk.i64_in _ (by omega)
      have hup := hL2.upto c
      have hz2 := hb2.size
      have l1 := Lib.hid (show c = (L.take c).length by rw [List.length_take, hLm.out]; omega)
      have l2 := Lib.hid (show j - c = (L.drop (c + 1)).length by rw [List.length_drop, hLm.out]; omega)
      have q4 := Lib.hid (show w2.heap.size ≤ (w2.alloc (.cells #[] 3)).drew.heap.size by simp)
      have hcB := Lib.hid (fun (w5 : World) (hb : Below w2.heap.size w2 w5) => hcut.keep (fun _ _ hlt => hb.block _ hlt))
      have hzB := Lib.hid (fun (w5 : World) (hb : Below w2.heap.size w2 w5) => hb.size)
      go_region_law? (first
        | (refine step_appN ?_ (.tmp 51) (.tmp 54) 22 3 .i64 8 ?_ Try.underlying22 Try.infoInt w2.heap.size (some ⟨w2.heap.size, 0, none⟩) 0 0 [] ?_ ?_ ⟨b, off, none⟩ c cL (L.take c) ?_ l1.out ?_ ?_ ?_ ?_ ?_; exact rfl; exact rfl; exact rfl; exact own_empty .i64 w2 3 0 w2.heap.size (Nat.le_refl _); exact rfl; exact hup.alloc _; exact q1.out; exact q2.out; exact q4.out; intro a5 c5 w5 ho5 hg5; rw [Nat.zero_add, List.nil_append] at ho5; have hb5 : Below w2.heap.size w2 w5 := (by first | exact hbA.out _ hg5 | exact hbB.out _ hg5))
        | (refine step_appN ?_ (.tmp 55) (.tmp 59) 22 3 .i64 8 ?_ Try.underlying22 Try.infoInt w2.heap.size a5 c c5 (L.take c) ?_ ?_ ad (j - c) (cL - (c + 1)) (L.drop (c + 1)) ?_ l2.out ?_ ?_ ?_ ?_ ?_; exact rfl; exact rfl; exact rfl; exact ho5; exact rfl; exact hcB.out _ hb5; exact q3.out; exact q2.out; exact hzB.out _ hb5; intro a6 c6 w6 ho6 hg6))
      have hb6 : Below w2.heap.size w2 w6 := bgrown hb5 hg6 (fun k hk => (ho5.lt hk).1)
      have hoO6 := OwnN.below hoO2 hb6
      have hlt6 := fun (k : Nat) hk => OwnN.lt ho6 (j := k) hk
      have hL6 := NumsAt.of_owns ho6
      have hbw := hb2.trans (hb6.mono hz2)
      go_wp2
      go_roundw
      case rel =>
        refine ⟨j, kk % f, L.eraseIdx c, out ++ [x], a', a6, cap', c6, by omega, rfl, ?_, by rw [show N - (j + 1) + 1 = N - j by clear hw2; omega], ?_, km0, by omega, ?_, ?_, ?_, ?_, ?_, ?_, hbw, ?_⟩
        · rw [show c + (j - c) = j by omega]
        · rw [show (N : Int) - ((j : Int) + 1) + 1 = (N : Int) - (j : Int) by clear hw2; omega]
        · show _ < _; rw [← HF.out]; exact km1
        · rw [List.eraseIdx_eq_take_drop_succ]; exact hL6
        · show (L.eraseIdx c).length = j; rw [List.length_eraseIdx, hLm.out]; simp [show c < j + 1 by omega]
        · have := (own_cap ho6).1; clear hw2; omega
        · rw [show N - j = N - (j + 1) + 1 by clear hw2; omega]; exact hoO6
        · intro ad had e
          rw [show N - j = N - (j + 1) + 1 by clear hw2; omega] at e
          have h1 := (hoO2.lt e).2
          have h2 := (hlt6 (k := ad.block) (by rw [had]; rfl)).1
          exact absurd h1 (Nat.not_lt.2 h2)
        · show _ = _
          rw [← hs.out, unr_next (m := j) (L := L) (k := kk) (c := c) (x := x) (by rw [← HF.out]; exact HC.out) hxx.out, HF.out, List.append_assoc]
          rfl
      case measure => simp; omega
    · obtain rfl : m = 0 := by omega
      have hN0 : ((N : Int) - (0 : Nat)) = (N : Int) := by omega
      go_wp2
      go_ret
      rw [show N - 0 = N by omega] at hoO
      refine gives_own hoO ?_ hb
      rw [hf.out, ← hs.out]
      simp [Perm.unrF]
end Go.Proofs.Ytdjneckgckagdaa
