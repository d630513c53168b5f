/- The library's cuts, joins and counts of texts at this program; texts in memory; a text's place among texts, walked. Conditions: what the listed variables hold; not too long texts. -/
import Derived.Test.YtjacphcnanopjaaDoorAtQ
import Derived.Test.YtjacphcnanopjaaDoorLexN
namespace Go.Proofs.YtjacphcnanopjaaDoor
open Go.Shelf Go.RowKit
set_option linter.unusedVariables false

/-- texts that lie somewhere -/
def StrsAt (w : World) (a : Option Addr) (N : List (List UInt8)) : Prop := 0 < N.length → ∃ b off, a = some ⟨b, off, none⟩ ∧ ∀ i (hi : i < N.length), w.cell? ⟨b, off + i, none⟩ = some (.string ⟨N[i].toArray⟩)
theorem StrsAt.below {w w' : World} {a : Option Addr} {N : List (List UInt8)} (h : StrsAt w a N) (hb : Below w.heap.size w w') : StrsAt w' a N := fun h0 => by
  obtain ⟨b, off, ha, hc⟩ := h h0
  exact ⟨b, off, ha, fun i hi => bcell hb (hc i hi)⟩
def strV (N : List (List UInt8)) : List Value := N.map fun x => .string ⟨x.toArray⟩
theorem strV_len (N : List (List UInt8)) : (strV N).length = N.length := List.length_map ..
theorem strV_at (N : List (List UInt8)) (i : Nat) (hi : i < N.length) : (strV N)[i]? = some (.string ⟨N[i].toArray⟩) := by
  unfold strV
  rw [List.getElem?_map, List.getElem?_eq_getElem hi]
  rfl
theorem StrsAt.of_row {w : World} {g T : Nat} {N : List (List UInt8)} (h : RowAt w g T (strV N)) : StrsAt w (some ⟨g, 0, none⟩) N := fun _ => ⟨g, 0, rfl, fun i hi => by rw [Nat.zero_add, h.cell i]; exact strV_at N i hi⟩
theorem StrsAt.of_own {w : World} {base e : Nat} {a : Option Addr} {c : Nat} {N : List (List UInt8)} (h : OwnR w base e 1 a N.length c (strV N)) : StrsAt w a N := fun h0 => by
  obtain ⟨g, e, _, _⟩ := OwnR.addr h h0
  subst e
  refine ⟨g, 0, rfl, fun i hi => ?_⟩
  rw [Nat.zero_add, OwnR.cell h i (by omega)]
  exact strV_at N i hi
theorem StrsAt.drop {w : World} {b off : Nat} {N : List (List UInt8)} (h : StrsAt w (some ⟨b, off, none⟩) N) (k : Nat) : StrsAt w (some ⟨b, off + k, none⟩) (N.drop k) := fun h0 => by
  rw [List.length_drop] at h0
  obtain ⟨b', off', ha, hc⟩ := h (by omega)
  injection ha with ha
  injection ha with e1 e2
  subst e1; subst e2
  refine ⟨b, off + k, rfl, fun i hi => ?_⟩
  rw [List.length_drop] at hi
  have := hc (k + i) (by omega)
  rw [List.getElem_drop, Nat.add_assoc]
  exact this
theorem StrsAt.take {w : World} {a : Option Addr} {N : List (List UInt8)} (h : StrsAt w a N) (k : Nat) : StrsAt w a (N.take k) := fun h0 => by
  rw [List.length_take] at h0
  obtain ⟨b, off, ha, hc⟩ := h (by omega)
  refine ⟨b, off, ha, fun i hi => ?_⟩
  rw [List.length_take] at hi
  rw [List.getElem_take]
  exact hc i (by omega)
theorem str_data (l : List ByteArray) : l.map Value.string = strV (l.map (·.data.toList)) := by
  unfold strV
  rw [List.map_map]
  rfl
theorem split_d (w : World) (hd : Door w) (s : ByteArray) (hs : s.size ≤ 1000000) (b : UInt8) :
    Calls Tryd.prog 23 #[.string s, .string ⟨#[b]⟩] w fun e w' => e = .returned (.slice (some ⟨w.heap.size, 0, none⟩) (cutP b s.data.toList).length (cutP b s.data.toList).length) ∧ RowAt w' w.heap.size 9 (strV (cutP b s.data.toList)) ∧ Below w.heap.size w w' := by
  obtain ⟨m, hm⟩ := hd.mx
  refine (Any.strings_Split { Tryd.laysSplit with } Tryd.laysSplit.i9 s ⟨#[b]⟩ m w (by omega) hm (Nat.le_refl 1)).mono fun e w' ⟨h1, h2⟩ => ?_
  rw [countB_cut] at h1
  rw [str_data, splitB_cut] at h2
  refine ⟨h1, ?_, by rw [h2]; exact balloc (Below.refl _ _) _⟩
  rw [h2]
  have := RowAt.new (w := w) (T := 9) (strV (cutP b s.data.toList)).toArray rfl
  exact this
theorem count_d (w : World) (s : ByteArray) (b : UInt8) :
    Calls Tryd.prog 22 #[.string s, .string ⟨#[b]⟩] w fun e w' => e = .returned (.int .i64 (((cutP b s.data.toList).length - 1 : Nat) : Int)) ∧ w' = w := by
  refine (Any.strings_Count_one Tryd.laysCount s b w).mono fun e w' ⟨h1, h2⟩ => ⟨?_, h2⟩
  rw [h1, ← count_cut]
  rfl
theorem cutsuf_d (w : World) (s : ByteArray) (hs : s.size ≤ 1000000) (b : UInt8) :
    Calls Tryd.prog 21 #[.string s, .string ⟨#[b]⟩] w fun e w' => e = .returned (.tuple #[.string ⟨(if s.data.toList.getLast? = some b then s.data.toList.dropLast else s.data.toList).toArray⟩, .bool (decide (s.data.toList.getLast? = some b))]) ∧ w' = w := by
  refine (Any.strings_CutSuffix Tryd.laysCutS s ⟨#[b]⟩ w (by omega)).mono fun e w' ⟨h1, h2⟩ => ⟨?_, h2⟩
  rw [h1, suf_last]
  by_cases h : s.data.toList.getLast? = some b
  · rw [if_pos h, trim_last _ _ h]
  · rw [if_neg h]
    unfold Lib.trimSuffix
    rw [suf_last, decide_eq_false h]
    rfl
theorem join_d (w : World) (a : Option Addr) (c : Nat) (N : List (List UInt8)) (h : StrsAt w a N) (h0 : 0 < N.length) (hN : N.length ≤ 100000) (hc : N.length ≤ c) (hl : (Lib.join N [10]).length ≤ 1000000000000) :
    Calls Tryd.prog 18 #[.slice a N.length c, .string ⟨#[10]⟩] w fun e w' => e = .returned (.string ⟨(Lib.join N [10]).toArray⟩) ∧ Below w.heap.size w w' := by
  obtain ⟨b, off, ha, hcell⟩ := h h0
  subst ha
  have e : (N.map fun x => (⟨x.toArray⟩ : ByteArray)).map (·.data.toList) = N := by
    rw [List.map_map]
    exact List.map_id'' (fun x => rfl) N
  have h1 := Any.strings_Join Tryd.laysJoin Tryd.extraJoin b off c (N.map fun x => (⟨x.toArray⟩ : ByteArray)) ⟨#[10]⟩ w (fun j x hj => by
    rw [List.getElem?_map] at hj
    obtain ⟨y, hy, rfl⟩ := Option.map_eq_some_iff.1 hj
    obtain ⟨hlt, e⟩ := List.getElem?_eq_some_iff.1 hy
    subst e
    exact hcell j hlt) (World.block_lt_of_cell? w _ (hcell 0 h0)) (by rw [List.length_map]; omega) (by rw [List.length_map]; exact hc) (by rw [e]; show (Lib.join N [10]).length ≤ _; omega)
  rw [List.length_map, e] at h1
  exact h1
/-- the place of a text among texts -/
theorem toP_take : ∀ (N : List (List UInt8)) (i : Nat) (hi : i < N.length), (∀ j (h : j < N.length), j < i → N[j] ≠ [116, 111]) → N[i] = [116, 111] → toP N = some i
  | x :: N, 0, hi, h, e => by
    rw [toP, if_pos (show x = [116, 111] from e)]
  | x :: N, i + 1, hi, h, e => by
    rw [toP, if_neg (show ¬ x = [116, 111] from h 0 (by simp) (by omega)), toP_take N i (by simpa using hi) (fun j hj hji => h (j + 1) (by simpa using hj) (by omega)) e]
theorem toP_none : ∀ (N : List (List UInt8)), (∀ j (h : j < N.length), N[j] ≠ [116, 111]) → toP N = none
  | [], h => rfl
  | x :: N, h => by
    rw [toP, if_neg (show ¬ x = [116, 111] from h 0 (by simp)), toP_none N (fun j hj => h (j + 1) (by simpa using hj))]
def toI (N : List (List UInt8)) : Int := match toP N with
  | some k => (k : Int)
  | none => -1
theorem index_to (w : World) (a : Option Addr) (c : Nat) (N : List (List UInt8)) (hN : StrsAt w a N) (hl : N.length ≤ 1000000) :
    Calls Tryd.prog 46 #[.slice a N.length c, .string ⟨#[116, 111]⟩] w fun e w' => e = .returned (.int .i64 (toI N)) ∧ w = w' := by
  obtain ⟨res, hres⟩ : ∃ res, res = toI N := ⟨_, rfl⟩
  rw [← hres]
  have ST : Hid (∀ i (hi : i < N.length), (∀ j (h : j < N.length), j < i → N[j] ≠ [116, 111]) → N[i] = [116, 111] → res = (i : Int)) := fun i hi h e => by
    rw [hres, toI, toP_take N i hi h e]
  have FIN : Hid ((∀ j (h : j < N.length), N[j] ≠ [116, 111]) → res = -1) := fun h => by rw [hres, toI, toP_none _ h]
  obtain ⟨n, hn⟩ : ∃ n, n = N.length := ⟨_, rfl⟩
  rw [← hn]
  have hnI : (n : Int) ≤ 1000000 := by omega
  have H0 : Hid (∀ j (h : j < N.length), j < 0 → N[j] ≠ [116, 111]) := fun j h h0 => by omega
  obtain ⟨s, hs⟩ : ∃ s : ByteArray, s = ⟨#[116, 111]⟩ := ⟨_, rfl⟩
  have hsd : s.data.toList = [116, 111] := by rw [hs]
  rw [← hs]
  replace hN := Lib.hid hN
  replace hn := Lib.hid hn
  replace hsd := Lib.hid hsd
  clear hres hl hs
  go_enter Tryd.func46, Tryd.ntmps46
  go_wp2
  go_loop [4, 8] (fun rv iv => ∃ i : Nat, rv = .int .i64 0 ∧ iv = .int .i64 (i : Int) ∧ i ≤ n ∧ Hid (∀ j (h : j < N.length), j < i → N[j] ≠ [116, 111])) (fun _ iv => n - (intOf iv).toNat)
  case atStart => exact ⟨0, rfl, rfl, Nat.zero_le _, H0⟩
  case round =>
    obtain ⟨i, rfl, rfl, hi, hno⟩ := hrel
    clear H0
    by_cases hlt : i < n
    · have hlI : (i : Int) < (n : Int) := by omega
      have hiN : i < N.length := by have := hn.out; omega
      obtain ⟨b, off, ea, hc⟩ := hN.out (by omega)
      have c1 := hc i hiN
      subst ea
      by_cases he : N[i] = [116, 111]
      · have hr := Lib.hid (ST.out i hiN hno.out he)
        have hes : (⟨N[i].toArray⟩ : ByteArray) = s := (str_eq _ _).2 (he.trans hsd.out.symm)
        rw [hes] at c1
        clear he hes hc ST FIN hno hiN
        go_wp2
        go_ret
        exact ⟨congrArg (fun b => Ending.returned (Value.int .i64 b)) hr.out.symm, rfl⟩
      · have hes : ¬ s = (⟨N[i].toArray⟩ : ByteArray) := fun e => he (((str_eq _ _).1 e.symm).trans hsd.out)
        have hq := str_no hes
        have hno2 : Hid (∀ j (h : j < N.length), j < i + 1 → N[j] ≠ [116, 111]) := fun j h hj => by
          by_cases e : j = i
          · subst e; exact he
          · exact hno.out j h (by omega)
        generalize (⟨N[i].toArray⟩ : ByteArray) = q at c1 hq
        clear he hes hc ST FIN hno hiN
        go_wp2
        go_round
        case rel => exact ⟨i + 1, rfl, by go_num, by omega, hno2⟩
        case measure => simp [intOf]; omega
    · have hlI : ¬ (i : Int) < (n : Int) := by omega
      have hr := Lib.hid (FIN.out (fun j h => hno.out j h (by have := hn.out; omega)))
      clear hno FIN ST
      go_wp2
      go_ret
      exact ⟨congrArg (fun b => Ending.returned (Value.int .i64 b)) hr.out.symm, rfl⟩
end Go.Proofs.YtjacphcnanopjaaDoor
