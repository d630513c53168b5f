/- The library's Clone at numbers and at edges. Conditions: bytes within an append's bound. -/
import Derived.Test.YtmlbjfaofppikaaPrIn
namespace Go.Proofs.Ytmlbjfaofppikaa
open Go.RowKit

theorem infoI : (Try.prog.info? 3).map (fun i => (i.zero, i.size, i.bytes)) = some (some (.int .i64 0), 1, 8) := by kernel_rfl
theorem infoU : (Try.prog.info? 73).map (fun i => (i.zero, i.size, i.bytes)) = some (some (.int .u64 0), 1, 8) := by kernel_rfl
theorem infoEd : (Try.prog.info? TE).map (fun i => (i.zero, i.size, i.bytes)) = some (some (.agg #[.int .i64 0, .int .i64 0]), 2, 16) := by kernel_rfl
theorem own_none (k : IntKind) (w : World) (T e base : Nat) (hb : base ≤ w.heap.size) : OwnN k (w.alloc (.cells #[] T)) base T (some ⟨w.heap.size, 0, none⟩) 0 0 [] :=
  World.ownsRow_made w #[] 0 hb (Nat.zero_le _) rfl
/-- numbers in a row of the call's own -/
def Cloned (k : IntKind) (T : Nat) (l : List Int) (w : World) (e : Ending) (w' : World) : Prop := ∃ a c, e = .returned (.slice a l.length c) ∧ OwnN k w' w.heap.size T a l.length c l ∧ Below w.heap.size w w'
def ClonedP (l : List PR) (w : World) (e : Ending) (w' : World) : Prop := ∃ a c, e = .returned (.slice a l.length c) ∧ OwnP w' w.heap.size TE a l.length c l ∧ Below w.heap.size w w'
theorem nil_of_none {k : IntKind} {w : World} {xs : List Int} (h : NumsAt k w none xs) : xs = [] := by
  cases xs with
  | nil => rfl
  | cons x xs => obtain ⟨b, off, h, _⟩ := h (by simp); cases h
theorem clone_ints (w : World) (a1 : Option Addr) (n1 c1 : Nat) (xs : List Int) (h1 : NumsAt .i64 w a1 xs) (hn1 : n1 = xs.length) (b1 : n1 * 8 ≤ 140737488355328) :
    Calls Try.prog 28 #[.slice a1 n1 c1] w (Cloned .i64 3 xs w) := by
  subst hn1
  have hnil := fun w (a : Option Addr) (n c : Nat) => Lib.run_eql_slice_nil (P := Try.prog) w 22 3 a n c 0 0 Try.underlying22
  cases a1 with
  | none =>
    have hx : Hid (xs = []) := nil_of_none h1
    go_enter Try.func28, Try.ntmps28
    go_wp2
    go_ret
    rw [hx.out]
    exact ⟨none, 0, rfl, OwnN.nil _ _ _ _, Below.refl _ _⟩
  | some ad =>
    go_enter Try.func28, Try.ntmps28
    go_wp2_with (at_builtin; refine wp_appN rfl _ _ 22 3 .i64 8 rfl Try.underlying22 infoI w.heap.size _ 0 0 [] rfl (own_none .i64 w 3 0 w.heap.size (Nat.le_refl _)) ad xs.length c1 xs rfl rfl (h1.alloc _) (by omega) (by omega) (by simp) ?_)
    intro a' cap' w' hown hg
    have hb := bgrown (balloc (Below.refl _ _) _) hg (by intro k hk; simp [Value.ownBlock] at hk; omega)
    replace hown := Lib.hid hown
    clear hg
    go_wp2
    go_ret
    exact ⟨a', cap', rfl, by simpa using hown.out, hb⟩
theorem clone_u64s (w : World) (a1 : Option Addr) (n1 c1 : Nat) (xs : List Int) (h1 : NumsAt .u64 w a1 xs) (hn1 : n1 = xs.length) (b1 : n1 * 8 ≤ 140737488355328) :
    Calls Try.prog 29 #[.slice a1 n1 c1] w (Cloned .u64 73 xs w) := by
  subst hn1
  have hnil := fun w (a : Option Addr) (n c : Nat) => Lib.run_eql_slice_nil (P := Try.prog) w 24 73 a n c 0 0 Try.underlying24
  cases a1 with
  | none =>
    have hx : Hid (xs = []) := nil_of_none h1
    go_enter Try.func29, Try.ntmps29
    go_wp2
    go_ret
    rw [hx.out]
    exact ⟨none, 0, rfl, OwnN.nil _ _ _ _, Below.refl _ _⟩
  | some ad =>
    go_enter Try.func29, Try.ntmps29
    go_wp2_with (at_builtin; refine wp_appN rfl _ _ 24 73 .u64 8 rfl Try.underlying24 infoU w.heap.size _ 0 0 [] rfl (own_none .u64 w 73 0 w.heap.size (Nat.le_refl _)) ad xs.length c1 xs rfl rfl (h1.alloc _) (by omega) (by omega) (by simp) ?_)
    intro a' cap' w' hown hg
    have hb := bgrown (balloc (Below.refl _ _) _) hg (by intro k hk; simp [Value.ownBlock] at hk; omega)
    replace hown := Lib.hid hown
    clear hg
    go_wp2
    go_ret
    exact ⟨a', cap', rfl, by simpa using hown.out, hb⟩
theorem pairs_cells {w : World} {b off : Nat} {l : List PR} (h : ∀ i (hi : i < l.length), w.cell? ⟨b, off + i * 2, none⟩ = some (.int .i64 l[i].1) ∧ w.cell? ⟨b, off + i * 2 + 1, none⟩ = some (.int .i64 l[i].2)) :
    ∀ j u, (pcells l)[j]? = some u → w.cell? ((⟨b, off, none⟩ : Addr).add j) = some u := by
  intro j u hj
  have hjl : j < (pcells l).length := (List.getElem?_eq_some_iff.1 hj).1
  rw [pcells_len] at hjl
  have hi : j / 2 < l.length := by omega
  obtain ⟨k1, k2⟩ := h (j / 2) hi
  obtain ⟨e1, e2⟩ := pcells_at l (j / 2) hi
  rw [add_off]
  rcases Nat.mod_two_eq_zero_or_one j with hm | hm
  · have e : j = j / 2 * 2 := by omega
    rw [e] at hj ⊢
    rw [e1] at hj
    cases hj
    exact k1
  · have e : j = j / 2 * 2 + 1 := by omega
    rw [e] at hj ⊢
    rw [e2] at hj
    cases hj
    rw [← Nat.add_assoc]
    exact k2
theorem ownP_empty (w : World) (base : Nat) (hb : base ≤ w.heap.size) : OwnR (w.alloc (.cells #[] TE)) base TE 2 (some ⟨w.heap.size, 0, none⟩) 0 0 [] := by
  have h := World.ownsRow_lit (base := base) (e := TE) (size := 2) w #[] 0 hb (Nat.zero_le _) rfl
  exact h
set_option maxHeartbeats 1000000 in
theorem clone_pairs (w : World) (a1 : Option Addr) (n1 c1 : Nat) (xs : List PR) (h1 : PairsAt w a1 xs) (hn1 : n1 = xs.length) (b1 : n1 * 16 ≤ 140737488355328) :
    Calls Try.prog 30 #[.slice a1 n1 c1] w (ClonedP xs w) := by
  have hnil := fun w (a : Option Addr) (n c : Nat) => Lib.run_eql_slice_nil (P := Try.prog) w TEs TE a n c 0 0 Try.underlying77
  cases a1 with
  | none =>
    have hx : Hid (xs = []) := by
      show _ = _
      cases xs with
      | nil => rfl
      | cons x xs => obtain ⟨b, off, h, _⟩ := h1 (by simp); cases h
    replace hn1 := Lib.hid hn1
    go_enter Try.func30, Try.ntmps30
    go_wp2
    go_ret
    rw [hx.out]
    exact ⟨none, 0, rfl, OwnR.nil _ _ _ _, Below.refl _ _⟩
  | some ad =>
    obtain ⟨i0, hi, hz0, hz1, hz2⟩ := info_parts infoEd
    have hA := balloc (Below.refl w.heap.size w) (.cells #[] TE)
    have OW := ownP_empty w w.heap.size (Nat.le_refl _)
    have hcl : (pcells xs).length = n1 * 2 := by rw [pcells_len, hn1]
    have hcs : ∀ j u, (pcells xs)[j]? = some u → (w.alloc (.cells #[] TE)).cell? (ad.add j) = some u := by
      by_cases h0 : 0 < xs.length
      · obtain ⟨b, off, ha, hc⟩ := (h1.below hA) h0
        cases ha
        exact pairs_cells hc
      · intro j u hj
        have := (List.getElem?_eq_some_iff.1 hj).1
        rw [pcells_len] at this
        omega
    have h1c : ∀ u ∈ pcells xs, u.oneCell' = true := fun u hu => by
      simp only [pcells, List.mem_flatMap] at hu
      obtain ⟨p, _, hp⟩ := hu
      simp at hp
      rcases hp with rfl | rfl <;> rfl
    have y1 : 0 + n1 ≤ maxLen := by unfold maxLen; omega
    have y2 : (0 + n1) * 16 ≤ 140737488355328 := by omega
    have y3 : w.heap.size ≤ (w.alloc (.cells #[] TE)).heap.size := hA.size
    replace hn1 := Lib.hid hn1
    replace hcl := Lib.hid hcl
    replace hcs := Lib.hid hcs
    replace h1c := Lib.hid h1c
    replace OW := Lib.hid OW
    replace y1 := Lib.hid y1
    replace y2 := Lib.hid y2
    replace y3 := Lib.hid y3
    clear h1 b1
    go_enter Try.func30, Try.ntmps30
    go_wp2_with (at_builtin; refine wpList_append_own _ rfl _ _ TEs rfl w.heap.size TE i0 (.agg #[.int .i64 0, .int .i64 0]) 2 16 Try.underlying77 hi hz0 hz1 hz2 rfl (by decide) _ 0 [] rfl OW.out ad n1 c1 (pcells xs) rfl hcl.out hcs.out h1c.out y1.out y2.out y3.out ?_)
    intro v' w' hown hg _
    obtain ⟨a', cap', rfl⟩ := own_form hown
    have hb := bgrown hA hg (fun k hk => (OwnR.lt OW.out hk).1)
    have hown2 : Hid (OwnP w' w.heap.size TE a' xs.length cap' xs) := by
      show OwnR w' w.heap.size TE 2 a' xs.length cap' (pcells xs)
      rw [← hn1.out]
      exact hown
    clear hown hg hi hz0 hz1 hz2
    go_wp2
    go_ret
    exact ⟨a', cap', by rw [hn1.out]; rfl, hown2.out, hb⟩
end Go.Proofs.Ytmlbjfaofppikaa
