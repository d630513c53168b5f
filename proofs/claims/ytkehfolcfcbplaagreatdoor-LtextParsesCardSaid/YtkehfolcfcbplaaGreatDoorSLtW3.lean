/- What is wrong with nodes (the program's), walked. Conditions: not too many nodes. -/
import Derived.Test.YtkehfolcfcbplaaGreatDoorSLtW2
import Derived.Test.YtkehfolcfcbplaaGreatDoorSCut
import Derived.Test.YtkehfolcfcbplaaGreatDoorSBox
namespace Go.Proofs.YtkehfolcfcbplaaGreatDoor
open Go.RowKit
set_option linter.unusedVariables false
set_option linter.unusedSimpArgs false
theorem OwnR.shrink {w : World} {base e sz g n cap m : Nat} {cells : List Value} (h : OwnR w base e sz (some ⟨g, 0, none⟩) n cap cells) (hm : m ≤ n) : OwnR w base e sz (some ⟨g, 0, none⟩) m cap (cells.take (m * sz)) := by
 have hl := OwnR.len h
 unfold OwnR at h ⊢
 refine ⟨?_, .inr ?_⟩
 ·rw [List.length_take, hl]
  have : m * sz ≤ n * sz := Nat.mul_le_mul_right _ hm
  omega
 ·rcases h.2 with ⟨hv, _⟩ | ⟨g', cap', cur, hv, hb, hh, h1, h2, h3, h4⟩
  ·simp at hv
  ·simp at hv
   obtain ⟨rfl, rfl⟩ := hv
   refine ⟨g, cap, cur, rfl, hb, hh, by omega, h2, h3, ?_⟩
   rw [← h4, List.take_take]
   have : m * sz ≤ n * sz := Nat.mul_le_mul_right _ hm
   rw [Nat.min_eq_left this]
theorem OwnR.shrinkA {w : World} {base e sz n cap m : Nat} {a : Option Addr} {cells : List Value} (h : OwnR w base e sz a n cap cells) (hm : m ≤ n) : OwnR w base e sz a m cap (cells.take (m * sz)) := by
 by_cases h0 : 0 < n
 ·obtain ⟨g, rfl, _⟩ := OwnR.addr h h0
  exact h.shrink hm
 ·obtain rfl : m = n := by omega
  have hl := OwnR.len h
  rw [List.take_of_length_le (by omega)]
  exact h
theorem own_block_len (a : Option Addr) (n m c : Nat) : (Value.slice a n c).ownBlock = (Value.slice a m c).ownBlock := by cases a <;> rfl
abbrev TInt : Nat := 3
abbrev TInts : Nat := 77
theorem infoI3 : (Tryz.prog.info? TInt).map (fun i => (i.zero, i.size, i.bytes)) = some (some (.int .i64 0), 1, 8) := by kernel_rfl
def GivesInts (l : List Int) (w : World) (e : Ending) (w' : World) : Prop := ∃ a cap, e = .returned (.slice a l.length cap) ∧ NumsAt .i64 w' a l ∧ Below w.heap.size w w'
theorem own_empty0 (k : IntKind) (w : World) (e g base : Nat) (hb : base ≤ w.heap.size) (hg : g = w.heap.size) : OwnN k (w.alloc (.cells #[] e)) base e (some ⟨g, 0, none⟩) 0 0 [] := by
 subst hg
 exact World.ownsRow_made w #[] 0 hb (Nat.zero_le _) rfl
theorem clone_ints (w : World) (a1 : Option Addr) (n1 c1 : Nat) (xs : List Int) (h1 : NumsAt .i64 w a1 xs) (hn1 : n1 = xs.length) (b1 : n1 * 8 ≤ 140737488355328) :
  Calls Tryz.prog 79 #[.slice a1 n1 c1] w (GivesInts xs w) := by
 subst hn1
 have hnil := fun w (a : Option Addr) (n c : Nat) => Lib.run_eql_slice_nil (P := Tryz.prog) w 77 3 a n c 0 0 Tryz.underlying77
 cases a1 with
 | none =>
  have hx : Hid (xs = []) := by
   show _ = _
   cases xs with
   | nil => rfl
   | cons x xs => obtain ⟨b, off, h, _⟩ := h1 (by simp); cases h
  go_enter Tryz.func79, Tryz.ntmps79
  go_wp2
  go_ret
  have he := hx.out
  subst he
  exact ⟨none, 0, rfl, NumsAt.nil _ _ _, Below.refl _ _⟩
 | some ad =>
  go_enter Tryz.func79, Tryz.ntmps79
  go_wp2_with (at_builtin; refine wp_appN rfl _ _ 77 3 .i64 8 rfl Tryz.underlying77 infoI3 w.heap.size _ 0 0 [] rfl (own_empty0 .i64 w 3 _ w.heap.size (Nat.le_refl _) rfl) ad xs.length c1 xs rfl rfl (h1.alloc _) (by omega) (by omega) (by simp) ?_)
  intro a' cap' w' hown hg
  have hb := bgrown (balloc (Below.refl _ _) _) hg (by intro k hk; simp [Value.ownBlock] at hk; omega)
  go_wp2
  go_ret
  exact ⟨a', cap', rfl, NumsAt.of_owns hown, hb⟩
def Sp1 (B g : Nat) (w : World) (oa : Option Addr) (on oc : Nat) (x : Int) (e : Ending) (w' : World) : Prop := e = .returned (.int .i64 x) ∧ ∃ oa' oc' cells', RowAt w' g TInts [.slice oa' (on + 1) oc'] ∧ OwnR w' B TInt 1 oa' (on + 1) oc' cells' ∧ Keeps w w' (fun j => j = g ∨ (Value.slice oa on oc).ownBlock = some j) ∧ ((Value.slice oa' (on + 1) oc').ownBlock = (Value.slice oa on oc).ownBlock ∨ ∃ j, (Value.slice oa' (on + 1) oc').ownBlock = some j ∧ w.heap.size ≤ j)
set_option maxRecDepth 8000 in
set_option maxHeartbeats 4000000 in
theorem span1_any (w : World) (B : Nat) (at_ : Int) (pa : Option Addr) (pc : Nat) (P : List Int) (hP : NumsAt .i64 w pa P) (hpl : P.length ≤ 100000) (g : Nat) (oa : Option Addr) (on oc : Nat) (cells : List Value) (bx : RowAt w g TInts [.slice oa on oc]) (own : OwnR w B TInt 1 oa on oc cells) (hon : on ≤ 100000) (hB : B ≤ w.heap.size) (hgo : ∀ j, (Value.slice oa on oc).ownBlock = some j → j ≠ g) :
  Calls Tryz.prog 68 #[.int .i64 at_, .slice pa P.length pc, .pointer (some ⟨g, 0, none⟩)] w fun e w' => ∃ x, Sp1 B g w oa on oc x e w' := by
 have q0 : w.cell? ⟨g, 0, none⟩ = some (.slice oa on oc) := bx.cell 0
 have honH := Lib.hid hon
 have hBH := Lib.hid hB
 have hgoH := Lib.hid hgo
 replace bx := Lib.hid bx
 replace own := Lib.hid own
 clear hon hB hgo
 by_cases h0 : 0 < P.length
 ·have h0I : (0 : Int) < (P.length : Int) := by omega
  obtain ⟨b, off, x, rfl, c1, hx⟩ := hP.at 0 h0
  rw [Nat.add_zero] at c1
  have hplI : (P.length : Int) ≤ 100000 := by omega
  generalize P.length = pn at h0 h0I hplI ⊢
  clear hx hP hpl
  go_enter Tryz.func68, Tryz.ntmps68
  go_upto_region 4 with (fail)
  refine wp_region_list ?_
  refine wpList_plain rfl (fun K hK => ?_)
  go_simp
  refine hK _ _ ?_
  clear hK K
  refine wpList_plain rfl (fun K hK => ?_)
  go_simp
  refine hK _ _ ?_
  clear hK K
  refine wpList_plain rfl (fun K hK => ?_)
  go_simp
  refine hK _ _ ?_
  clear hK K
  obtain ⟨w7, hw7⟩ : ∃ w7, w7 = w.alloc (.cells #[.int .i64 x] TInt) := ⟨_, rfl⟩
  obtain ⟨g7, hg7⟩ : ∃ g7, g7 = w.heap.size := ⟨_, rfl⟩
  have r7 : RowAt w7 g7 TInt [.int .i64 x] := by rw [hw7]; exact RowAt.new #[.int .i64 x] hg7
  have b67 : Below w.heap.size w w7 := by rw [hw7]; exact balloc (Below.refl _ _) _
  rw [← hw7, ← hg7]
  have own7 : OwnR w7 B TInt 1 oa on oc cells := OwnR.keeps own.out (Keeps.of_below (S := fun _ => False) b67) (fun _ _ h => h)
  have bx7 := bx.out.below b67
  have hs7 := b67.size
  have hgl := bx.out.lt
  replace hw7 := Lib.hid hw7
  replace hg7 := Lib.hid hg7
  refine wp_appR rfl (.tmp 14) (.tmp 16) 77 TInt (.int .i64 0) 1 8 rfl Tryz.underlying77 infoI3 rfl (by decide) B oa on oc cells rfl own7 g7 1 [.int .i64 x] rfl rfl (fun j u hj => by
   have := r7.cell j
   rw [hj] at this
   rw [add_off, Nat.zero_add]
   exact this) (fun u hu => by rw [List.mem_singleton] at hu; subst hu; rfl) (by have := honH.out; unfold maxLen; omega) (by have := honH.out; omega) (by have := hBH.out; omega) ?_
  intro oa8 oc8 w8 own8 hg8 hat8
  have bx8 : RowAt w8 g TInts [.slice oa on oc] := bx7.keep (hg8.block g bx7.lt (fun e => hgoH.out g e.symm rfl))
  have c8 : w8.cell? ⟨g, 0, none⟩ = some (.slice oa on oc) := bx8.cell 0
  have f8 := bx8.free 0
  have hne8 : ∀ j, (Value.slice oa8 (on + 1) oc8).ownBlock = some j → ¬ j = g := fun j hj e => by
   subst e
   rcases hat8 with h | h
   ·exact hgoH.out _ (h.symm.trans hj) rfl
   ·rw [hj] at h
    injection h with h
    omega
  have hk8 : Keeps w w8 (fun j => j = g ∨ (Value.slice oa on oc).ownBlock = some j) := (Keeps.of_below b67).trans (Keeps.of_grown (S := fun j => (Value.slice oa on oc).ownBlock = some j) hg8 (fun j h => h)) (fun j _ h => .inr h)
  have hat9 : (Value.slice oa8 (on + 1) oc8).ownBlock = (Value.slice oa on oc).ownBlock ∨ ∃ j, (Value.slice oa8 (on + 1) oc8).ownBlock = some j ∧ w.heap.size ≤ j := by
   rcases hat8 with h | h
   ·exact .inl h
   ·exact .inr ⟨_, h, hs7⟩
  have fin : Sp1 B g w oa on oc x (.returned (.int .i64 x)) (w8.setCell ⟨g, 0, none⟩ (.slice oa8 (on + 1) oc8)) := by
   have kset : Keeps w8 (w8.setCell ⟨g, 0, none⟩ (.slice oa8 (on + 1) oc8)) (fun j => j = g) := Keeps.set _ _ _ _ rfl
   exact ⟨rfl, oa8, oc8, _, bx8.set 0 _, OwnR.keeps own8 kset hne8, hk8.trans kset (fun j _ e => .inl e), hat9⟩
  replace fin := Lib.hid fin
  clear own8 hg8 hat8 hne8 hk8 hat9 bx8 own7 bx7 r7 b67
  refine wpList_plain rfl (fun K hK => ?_)
  go_simp
  refine hK _ _ ?_
  clear hK K
  refine wpList_nil ?_
  clear c8 f8
  generalize w8.setCell ⟨g, 0, none⟩ (.slice oa8 (on + 1) oc8) = w9 at fin ⊢
  go_wp2
  go_ret
  exact ⟨x, fin.out⟩
 ·have h0I : ¬ (0 : Int) < (P.length : Int) := by omega
  obtain ⟨x, hx⟩ : ∃ x, x = at_ := ⟨_, rfl⟩
  rw [← hx]
  generalize P.length = pn at h0 h0I ⊢
  clear hP hpl h0 hx
  go_enter Tryz.func68, Tryz.ntmps68
  go_upto_region 4 with (fail)
  refine wp_region_list ?_
  refine wpList_plain rfl (fun K hK => ?_)
  go_simp
  refine hK _ _ ?_
  clear hK K
  refine wpList_plain rfl (fun K hK => ?_)
  go_simp
  refine hK _ _ ?_
  clear hK K
  refine wpList_plain rfl (fun K hK => ?_)
  go_simp
  refine hK _ _ ?_
  clear hK K
  obtain ⟨w7, hw7⟩ : ∃ w7, w7 = w.alloc (.cells #[.int .i64 x] TInt) := ⟨_, rfl⟩
  obtain ⟨g7, hg7⟩ : ∃ g7, g7 = w.heap.size := ⟨_, rfl⟩
  have r7 : RowAt w7 g7 TInt [.int .i64 x] := by rw [hw7]; exact RowAt.new #[.int .i64 x] hg7
  have b67 : Below w.heap.size w w7 := by rw [hw7]; exact balloc (Below.refl _ _) _
  rw [← hw7, ← hg7]
  have own7 : OwnR w7 B TInt 1 oa on oc cells := OwnR.keeps own.out (Keeps.of_below (S := fun _ => False) b67) (fun _ _ h => h)
  have bx7 := bx.out.below b67
  have hs7 := b67.size
  have hgl := bx.out.lt
  replace hw7 := Lib.hid hw7
  replace hg7 := Lib.hid hg7
  refine wp_appR rfl (.tmp 14) (.tmp 16) 77 TInt (.int .i64 0) 1 8 rfl Tryz.underlying77 infoI3 rfl (by decide) B oa on oc cells rfl own7 g7 1 [.int .i64 x] rfl rfl (fun j u hj => by
   have := r7.cell j
   rw [hj] at this
   rw [add_off, Nat.zero_add]
   exact this) (fun u hu => by rw [List.mem_singleton] at hu; subst hu; rfl) (by have := honH.out; unfold maxLen; omega) (by have := honH.out; omega) (by have := hBH.out; omega) ?_
  intro oa8 oc8 w8 own8 hg8 hat8
  have bx8 : RowAt w8 g TInts [.slice oa on oc] := bx7.keep (hg8.block g bx7.lt (fun e => hgoH.out g e.symm rfl))
  have c8 : w8.cell? ⟨g, 0, none⟩ = some (.slice oa on oc) := bx8.cell 0
  have f8 := bx8.free 0
  have hne8 : ∀ j, (Value.slice oa8 (on + 1) oc8).ownBlock = some j → ¬ j = g := fun j hj e => by
   subst e
   rcases hat8 with h | h
   ·exact hgoH.out _ (h.symm.trans hj) rfl
   ·rw [hj] at h
    injection h with h
    omega
  have hk8 : Keeps w w8 (fun j => j = g ∨ (Value.slice oa on oc).ownBlock = some j) := (Keeps.of_below b67).trans (Keeps.of_grown (S := fun j => (Value.slice oa on oc).ownBlock = some j) hg8 (fun j h => h)) (fun j _ h => .inr h)
  have hat9 : (Value.slice oa8 (on + 1) oc8).ownBlock = (Value.slice oa on oc).ownBlock ∨ ∃ j, (Value.slice oa8 (on + 1) oc8).ownBlock = some j ∧ w.heap.size ≤ j := by
   rcases hat8 with h | h
   ·exact .inl h
   ·exact .inr ⟨_, h, hs7⟩
  have fin : Sp1 B g w oa on oc x (.returned (.int .i64 x)) (w8.setCell ⟨g, 0, none⟩ (.slice oa8 (on + 1) oc8)) := by
   have kset : Keeps w8 (w8.setCell ⟨g, 0, none⟩ (.slice oa8 (on + 1) oc8)) (fun j => j = g) := Keeps.set _ _ _ _ rfl
   exact ⟨rfl, oa8, oc8, _, bx8.set 0 _, OwnR.keeps own8 kset hne8, hk8.trans kset (fun j _ e => .inl e), hat9⟩
  replace fin := Lib.hid fin
  clear own8 hg8 hat8 hne8 hk8 hat9 bx8 own7 bx7 r7 b67
  refine wpList_plain rfl (fun K hK => ?_)
  go_simp
  refine hK _ _ ?_
  clear hK K
  refine wpList_nil ?_
  clear c8 f8
  generalize w8.setCell ⟨g, 0, none⟩ (.slice oa8 (on + 1) oc8) = w9 at fin ⊢
  go_wp2
  go_ret
  exact ⟨x, fin.out⟩
end Go.Proofs.YtkehfolcfcbplaaGreatDoor
