/- The places of a word's bits, walked; numbers of texts. Conditions: short texts. -/
import Derived.Test.YtjacphcnanopjaaDoorAtF
import Derived.Laws.BitsAllLaws
namespace Go.Proofs.YtjacphcnanopjaaDoor
open Go.Shelf Go.RowKit
set_option linter.unusedVariables false
set_option linter.unusedSimpArgs false

theorem infoI : (Tryd.prog.info? 3).map (fun i => (i.zero, i.size, i.bytes)) = some (some (.int .i64 0), 1, 8) := by kernel_rfl
theorem new_cell1 (w : World) (T : Nat) (v : Value) : (w.alloc (.cells #[v] T)).cell? ⟨w.heap.size, 0, none⟩ = some v := by
  rw [World.cell?_alloc_at _ _ _ _ rfl]
  rfl
/-- one bit, as the walk spells it -/
theorem bit_test (u i : Nat) (hu : u64ok u) : (bits .and .u64 ((u : Int) / 2 ^ i) 1 == 1) = u.testBit i := by
  have e : ((u : Int) / 2 ^ i) = ((u / 2 ^ i : Nat) : Int) := by
    rw [Int.natCast_ediv, Int.natCast_pow]
    rfl
  have hlt : u / 2 ^ i < 18446744073709551616 := Nat.lt_of_le_of_lt (Nat.div_le_self ..) hu
  rw [e, show (1 : Int) = ((1 : Nat) : Int) from rfl, u64_and_nat _ _ hlt (by decide)]
  rw [Nat.and_one_is_mod, Nat.testBit_eq_decide_div_mod_eq]
  rw [Bool.eq_iff_iff, beq_iff_eq, decide_eq_true_iff]
  omega
def bitsK (u i : Nat) : List Int := ((List.range i).filter fun j => u.testBit j).map fun j : Nat => (j : Int)
theorem bitsK_le (u i : Nat) : (bitsK u i).length ≤ i := by
  unfold bitsK
  rw [List.length_map]
  have := List.length_filter_le (fun j => u.testBit j) (List.range i)
  rw [List.length_range] at this
  exact this
theorem bitsK_yes {u i : Nat} (h : u.testBit i = true) : bitsK u (i + 1) = bitsK u i ++ [(i : Int)] := by
  unfold bitsK
  rw [List.range_succ, List.filter_append, List.map_append]
  simp [h]
theorem bitsK_no {u i : Nat} (h : u.testBit i = false) : bitsK u (i + 1) = bitsK u i := by
  unfold bitsK
  rw [List.range_succ, List.filter_append, List.map_append]
  simp [h]
theorem bitsK_64 (u : Nat) : bitsK u 64 = (bitsP u).map fun j : Nat => (j : Int) := rfl
/-- numbers that a call hands out, in a row of its own -/
def GivesN (w : World) (xs : List Int) (e : Ending) (w' : World) : Prop := ∃ oa oc, e = .returned (.slice oa xs.length oc) ∧ OwnN .i64 w' w.heap.size 3 oa xs.length oc xs ∧ Below w.heap.size w w'
set_option maxRecDepth 8000 in
set_option maxHeartbeats 4000000 in
theorem places_any (w : World) (u : Nat) (hu : u64ok u) :
    Calls Tryd.prog 37 #[.int .u64 (u : Int)] w (GivesN w (bitsK u 64)) := by
  have BT : Hid (∀ i, (bits .and .u64 ((u : Int) / 2 ^ i) 1 == 1) = u.testBit i) := fun i => bit_test u i hu
  have O0 : Hid (OwnN .i64 w w.heap.size 3 none (bitsK u 0).length 0 (bitsK u 0)) := OwnN.nil _ _ _ _
  clear hu
  go_enter Tryd.func37, Tryd.ntmps37
  go_wp2
  go_loopw [3, 5] (fun ov iv wr => ∃ (i n : Nat) (oa : Option Addr) (oc : Nat), ov = .slice oa n oc ∧ iv = .int .i64 (i : Int) ∧ i ≤ 64 ∧ Hid (n = (bitsK u i).length) ∧ Hid (OwnN .i64 wr w.heap.size 3 oa n oc (bitsK u i)) ∧ Hid (Below w.heap.size w wr)) (fun _ iv _ => 64 - (intOf iv).toNat)
  case atStart => exact ⟨0, 0, none, 0, rfl, rfl, Nat.zero_le _, rfl, O0, Below.refl _ _⟩
  case round =>
    obtain ⟨i, n, oa, oc, rfl, rfl, hi, hn, own, Z⟩ := hrel
    clear O0
    by_cases hlt : i < 64
    · have hlI : (i : Int) < 64 := by omega
      have hn64 : n ≤ 64 := by have := hn.out; have := bitsK_le u i; omega
      have b1 := BT.out i
      by_cases hb : u.testBit i = true
      · rw [hb] at b1
        have hy := Lib.hid (bitsK_yes hb)
        clear hb BT
        go_wp2_with (at_builtin; refine wp_app1 rfl _ _ 22 3 .i64 8 rfl Tryd.underlying22 infoI w.heap.size oa n oc (bitsK u i) rfl (own.out.alloc _) wr.heap.size 1 (i : Int) rfl (new_cell1 _ _ _) (by omega) (by decide) (by have := Z.out.size; simp; omega) ?_)
        intro a' c' w' ho hg
        have ho2 : Hid (OwnN .i64 w' w.heap.size 3 a' (n + 1) c' (bitsK u (i + 1))) := by
          show OwnN _ _ _ _ _ _ _ _
          rw [hy.out]
          exact ho
        have hn2 : Hid (n + 1 = (bitsK u (i + 1)).length) := by
          show _ = _
          rw [hy.out, List.length_append, ← hn.out]
          rfl
        have Z2 : Hid (Below w.heap.size w w') := by
          refine bgrown (Z.out.alloc Z.out.size _) hg ?_
          intro j hj
          exact (own.out.lt2 hj).1
        clear ho hg hy own hn Z
        go_wp2
        go_roundw
        case rel => exact ⟨i + 1, n + 1, a', c', rfl, by go_num, by omega, hn2, ho2, Z2⟩
        case measure => simp [intOf]; omega
      · rw [Bool.not_eq_true] at hb
        rw [hb] at b1
        have hy := bitsK_no hb
        have ho2 : Hid (OwnN .i64 wr w.heap.size 3 oa n oc (bitsK u (i + 1))) := by rw [hy]; exact own
        have hn2 : Hid (n = (bitsK u (i + 1)).length) := by rw [hy]; exact hn
        clear hb BT hy own hn
        go_wp2
        go_roundw
        case rel => exact ⟨i + 1, n, oa, oc, rfl, by go_num, by omega, hn2, ho2, Z⟩
        case measure => simp [intOf]; omega
    · have hlI : ¬ (i : Int) < 64 := by omega
      have he : i = 64 := by omega
      subst he
      clear BT
      go_wp2
      go_ret
      have ho := own.out
      rw [hn.out] at ho
      exact ⟨oa, oc, by rw [← hn.out]; rfl, ho, Z.out⟩
theorem numsP_snoc : ∀ (l : List (List UInt8)) (f : List UInt8), numsP (l ++ [f]) = match numsP l with
    | none => none
    | some xs => match numN f with
      | none => none
      | some n => some (xs ++ [n])
  | [], f => by
    show numsP [f] = _
    rw [numsP, numsP, numsP]
    cases numN f <;> rfl
  | x :: l, f => by
    show numsP (x :: (l ++ [f])) = _
    rw [numsP, numsP, numsP_snoc l f]
    cases numN x with
    | none => rfl
    | some n =>
      cases numsP l with
      | none => rfl
      | some xs => cases numN f <;> rfl
theorem numsP_app_none : ∀ (l r : List (List UInt8)), numsP l = none → numsP (l ++ r) = none
  | [], r, h => by cases h
  | x :: l, r, h => by
    show numsP (x :: (l ++ r)) = _
    rw [numsP] at h ⊢
    cases hx : numN x with
    | none => rfl
    | some n =>
      rw [hx] at h
      dsimp only at h ⊢
      cases hl : numsP l with
      | none => rw [numsP_app_none l r hl]
      | some xs => rw [hl] at h; cases h
theorem numsP_at (N : List (List UInt8)) (i : Nat) (hi : i < N.length) {xs : List Int} (h : numsP (N.take i) = some xs) :
    (numN N[i] = none → numsP N = none) ∧ ∀ n, numN N[i] = some n → numsP (N.take (i + 1)) = some (xs ++ [n]) := by
  have e : numsP (N.take (i + 1)) = match numN N[i] with
      | none => none
      | some n => some (xs ++ [n]) := by
    rw [List.take_succ_eq_append_getElem hi, numsP_snoc, h]
  refine ⟨fun h0 => ?_, fun n h0 => by rw [e, h0]⟩
  rw [h0] at e
  have := numsP_app_none (N.take (i + 1)) (N.drop (i + 1)) e
  rw [List.take_append_drop] at this
  exact this
/-- numbers of texts, or that there are none -/
def NumsV (w : World) : Option (List Int) → Ending → World → Prop
  | none, e, w' => e = .returned (.tuple #[.slice none 0 0, .bool false]) ∧ Below w.heap.size w w'
  | some xs, e, w' => ∃ oa oc, e = .returned (.tuple #[.slice oa xs.length oc, .bool true]) ∧ OwnN .i64 w' w.heap.size 3 oa xs.length oc xs ∧ Below w.heap.size w w'
theorem numN_bool (l : List UInt8) : (numN l = none ∧ ((numP l).2 && decide (0 ≤ (numP l).1)) = false) ∨ (numN l = some (numP l).1 ∧ ((numP l).2 && decide (0 ≤ (numP l).1)) = true) := by
  unfold numN
  by_cases h : (numP l).2 = true ∧ 0 ≤ (numP l).1
  · rw [if_pos h]
    exact .inr ⟨rfl, by rw [h.1, decide_eq_true h.2]; rfl⟩
  · rw [if_neg h]
    refine .inl ⟨rfl, ?_⟩
    cases hb : (numP l).2 with
    | false => rfl
    | true => rw [decide_eq_false (fun h2 => h ⟨hb, h2⟩)]; rfl
theorem number1_any (w : World) (hd : Door w) (s : ByteArray) (hs : s.size ≤ 281474976710656) :
    Calls Tryd.prog 57 #[.string s] w fun e w' => e = .returned (.tuple #[.int .i64 (numP s.data.toList).1, .bool ((numP s.data.toList).2 && decide (0 ≤ (numP s.data.toList).1))]) ∧ Below w.heap.size w w' := by
  have C := Lib.hid (number_any w hd s hs)
  generalize numP s.data.toList = q at C
  obtain ⟨n, b⟩ := q
  dsimp only at C ⊢
  clear hd hs
  by_cases h : 0 ≤ n
  · rw [decide_eq_true h, Bool.and_true]
    have hB : decide (0 ≤ n) = true := decide_eq_true h
    cases b
    · go_enter Tryd.func57, Tryd.ntmps57
      go_wp2_with fail
      refine C.out.mono ?_
      rintro e w1 ⟨rfl, hb⟩
      replace hb := Lib.hid hb
      go_wp2
      exact bodyPost_ret (v := .tuple #[.int .i64 n, .bool false]) (by simp [results, Tryd.results57]) rfl ⟨rfl, hb.out⟩
    · go_enter Tryd.func57, Tryd.ntmps57
      go_wp2_with fail
      refine C.out.mono ?_
      rintro e w1 ⟨rfl, hb⟩
      replace hb := Lib.hid hb
      go_wp2
      exact bodyPost_ret (v := .tuple #[.int .i64 n, .bool true]) (by simp [results, Tryd.results57]) rfl ⟨rfl, hb.out⟩
  · rw [decide_eq_false h, Bool.and_false]
    have hB : decide (0 ≤ n) = false := decide_eq_false h
    have hL : n < 0 := by omega
    cases b
    · go_enter Tryd.func57, Tryd.ntmps57
      go_wp2_with fail
      refine C.out.mono ?_
      rintro e w1 ⟨rfl, hb⟩
      replace hb := Lib.hid hb
      go_wp2
      exact bodyPost_ret (v := .tuple #[.int .i64 n, .bool false]) (by simp [results, Tryd.results57]) rfl ⟨rfl, hb.out⟩
    · go_enter Tryd.func57, Tryd.ntmps57
      go_wp2_with fail
      refine C.out.mono ?_
      rintro e w1 ⟨rfl, hb⟩
      replace hb := Lib.hid hb
      go_wp2
      exact bodyPost_ret (v := .tuple #[.int .i64 n, .bool false]) (by simp [results, Tryd.results57]) rfl ⟨rfl, hb.out⟩
end Go.Proofs.YtjacphcnanopjaaDoor
