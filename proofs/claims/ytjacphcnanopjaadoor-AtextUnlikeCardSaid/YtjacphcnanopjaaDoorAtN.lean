/- Numbers of texts, walked: the program's and the document's. Conditions: short texts, not too many. -/
import Derived.Test.YtjacphcnanopjaaDoorAtG
namespace Go.Proofs.YtjacphcnanopjaaDoor
open Go.Shelf Go.RowKit
set_option linter.unusedVariables false
set_option linter.unusedSimpArgs false

/-- what has been read so far -/
def NmS (w : World) (N : List (List UInt8)) (i n : Nat) (oa : Option Addr) (oc : Nat) (wr : World) : Prop := ∃ xs, numsP (N.take i) = some xs ∧ n = xs.length ∧ OwnN .i64 wr w.heap.size 3 oa n oc xs ∧ Below w.heap.size w wr
theorem NmS.start (w : World) (N : List (List UInt8)) : NmS w N 0 0 none 0 w := ⟨[], by rw [List.take_zero]; rfl, rfl, OwnN.nil _ _ _ _, Below.refl _ _⟩
theorem NmS.small {w : World} {N : List (List UInt8)} {i n : Nat} {oa : Option Addr} {oc : Nat} {wr : World} (h : NmS w N i n oa oc wr) : n ≤ i := by
  obtain ⟨xs, h1, h2, _⟩ := h
  have := (numsP_some h1).1
  rw [List.length_take] at this
  omega
theorem NmS.fin {w : World} {N : List (List UInt8)} {n : Nat} {oa : Option Addr} {oc : Nat} {wr : World} (h : NmS w N N.length n oa oc wr) : NumsV w (numsP N) (.returned (.tuple #[.slice oa n oc, .bool true])) wr := by
  obtain ⟨xs, h1, h2, h3, h4⟩ := h
  rw [List.take_length] at h1
  rw [h1]
  subst h2
  exact ⟨oa, oc, rfl, h3, h4⟩
theorem NmS.stop {w : World} {N : List (List UInt8)} {i n : Nat} {oa : Option Addr} {oc : Nat} {wr w' : World} (h : NmS w N i n oa oc wr) (hi : i < N.length) (hn : numN N[i] = none) (hb : Below wr.heap.size wr w') : NumsV w (numsP N) (.returned (.tuple #[.slice none 0 0, .bool false])) w' := by
  obtain ⟨xs, h1, h2, h3, h4⟩ := h
  rw [(numsP_at N i hi h1).1 hn]
  exact ⟨rfl, btrans h4 hb⟩
theorem NmS.below {w : World} {N : List (List UInt8)} {i n : Nat} {oa : Option Addr} {oc : Nat} {wr w' : World} (h : NmS w N i n oa oc wr) (hb : Below wr.heap.size wr w') : NmS w N i n oa oc w' := by
  obtain ⟨xs, h1, h2, h3, h4⟩ := h
  exact ⟨xs, h1, h2, h3.keeps (S := fun _ => False) (Keeps.of_below hb) (fun _ _ e => e), btrans h4 hb⟩
/-- one number more: what the append asks, and what it gives -/
theorem NmS.app {w : World} {N : List (List UInt8)} {i n : Nat} {oa : Option Addr} {oc : Nat} {wr : World} (h : NmS w N i n oa oc wr) (hi : i < N.length) {v : Int} (hn : numN N[i] = some v) : ∃ xs, OwnN .i64 wr w.heap.size 3 oa n oc xs ∧ w.heap.size ≤ wr.heap.size ∧ ∀ a' c' wa w', Below wr.heap.size wr wa → OwnN .i64 w' w.heap.size 3 a' (n + 1) c' (xs ++ [v]) → wa.grownBy w' (Value.slice oa n oc).ownBlock → NmS w N (i + 1) (n + 1) a' c' w' := by
  obtain ⟨xs, h1, h2, h3, h4⟩ := h
  refine ⟨xs, h3, h4.size, fun a' c' wa w' hb ho hg => ⟨xs ++ [v], (numsP_at N i hi h1).2 v hn, by rw [List.length_append, h2]; rfl, ho, ?_⟩⟩
  exact bgrown (btrans h4 hb) hg (fun j hj => (h3.lt2 hj).1)
set_option maxRecDepth 8000 in
set_option maxHeartbeats 4000000 in
theorem numbers_any (w : World) (hd : Door w) (a : Option Addr) (c : Nat) (N : List (List UInt8)) (hN : StrsAt w a N) (hl : N.length ≤ 1000000) (hs : ∀ f ∈ N, f.length ≤ 1000000) :
    Calls Tryd.prog 48 #[.slice a N.length c] w fun e w' => NumsV w (numsP N) e w' := by
  obtain ⟨PO, hPO⟩ : ∃ PO : Ending → World → Prop, PO = NumsV w (numsP N) := ⟨_, rfl⟩
  show Calls _ _ _ _ fun e w' => NumsV w (numsP N) e w'
  rw [← hPO]
  have C : Hid (∀ v, Below w.heap.size w v → ∀ i (hi : i < N.length), Calls Tryd.prog 57 #[.string ⟨N[i].toArray⟩] v fun e w' => e = .returned (.tuple #[.int .i64 (numP N[i]).1, .bool ((numP N[i]).2 && decide (0 ≤ (numP N[i]).1))]) ∧ Below v.heap.size v w') := fun v hb i hi => number1_any v (hd.below hb) ⟨N[i].toArray⟩ (by have := hs _ (List.getElem_mem hi); show N[i].toArray.size ≤ _; rw [List.size_toArray]; omega)
  have FIN : Hid (∀ n oa oc wr, NmS w N N.length n oa oc wr → PO (.returned (.tuple #[.slice oa n oc, .bool true])) wr) := fun n oa oc wr h => by rw [hPO]; exact h.fin
  have STP : Hid (∀ i n oa oc wr w', NmS w N i n oa oc wr → (hi : i < N.length) → numN N[i] = none → Below wr.heap.size wr w' → PO (.returned (.tuple #[.slice none 0 0, .bool false])) w') := fun i n oa oc wr w' h hi hn hb => by rw [hPO]; exact h.stop hi hn hb
  have S0 := Lib.hid (NmS.start w N)
  obtain ⟨nn, hnn⟩ : ∃ nn, nn = N.length := ⟨_, rfl⟩
  rw [← hnn] at FIN ⊢
  have hnI : (nn : Int) ≤ 1000000 := by omega
  replace hnn := Lib.hid hnn
  replace hN := Lib.hid hN
  clear hPO hd hl hs
  go_enter Tryd.func48, Tryd.ntmps48
  go_wp2
  go_loopw [2, 3, 4, 11] (fun rv sv ov iv wr => ∃ (i n : Nat) (oa : Option Addr) (oc : Nat), rv = .slice none 0 0 ∧ sv = .bool false ∧ ov = .slice oa n oc ∧ iv = .int .i64 (i : Int) ∧ i ≤ nn ∧ Hid (NmS w N i n oa oc wr)) (fun _ _ _ iv _ => nn - (intOf iv).toNat)
  case atStart => exact ⟨0, 0, none, 0, rfl, rfl, rfl, rfl, Nat.zero_le _, S0⟩
  case round =>
    obtain ⟨i, n, oa, oc, rfl, rfl, rfl, rfl, hi, S⟩ := hrel
    clear S0
    by_cases hlt : i < nn
    · have hlI : (i : Int) < (nn : Int) := by omega
      have hiN : i < N.length := by have := hnn.out; omega
      have Z : Hid (Below w.heap.size w wr) := by obtain ⟨_, _, _, _, h4⟩ := S.out; exact h4
      obtain ⟨b, off, ea, hc⟩ := (hN.out.below Z.out) (by omega)
      have c1 := hc i hiN
      subst ea
      have C1 := C.out wr Z.out i hiN
      have hsm := S.out.small
      have SP := fun w' h hb => STP.out i n oa oc wr w' S.out hiN h hb
      have AP := fun v => S.out.app (v := v) hiN
      have NB := numN_bool N[i]
      generalize (⟨N[i].toArray⟩ : ByteArray) = q at c1 C1
      generalize numP N[i] = nb at C1 NB
      generalize numN N[i] = o at SP AP NB
      obtain ⟨v, bb⟩ := nb
      dsimp only at C1 NB
      clear hc STP C FIN hiN S Z
      rcases NB with ⟨ho, hb⟩ | ⟨ho, hb⟩
      · subst ho
        replace SP := Lib.hid (fun w' => SP w' rfl)
        rw [hb] at C1
        replace C1 := Lib.hid C1
        clear hb AP
        go_wp2_with fail
        refine C1.out.mono ?_
        rintro e w2 ⟨rfl, hb2⟩
        have hf := Lib.hid (SP.out w2 hb2)
        clear hb2 SP C1
        go_wp2
        exact hf.out
      · subst ho
        obtain ⟨xs, own, hsz, AP⟩ := AP v rfl
        rw [hb] at C1
        replace C1 := Lib.hid C1
        clear hb
        go_wp2_with fail
        refine C1.out.mono ?_
        rintro e w2 ⟨rfl, hb2⟩
        have own2 := own.keeps (S := fun _ => False) (Keeps.of_below hb2) (fun _ _ e => e)
        have hsz2 : w.heap.size ≤ w2.heap.size := Nat.le_trans hsz hb2.size
        replace hb2 := Lib.hid hb2
        replace AP := Lib.hid AP
        clear own C1 SP hsz
        go_wp2_with (at_builtin; refine wp_app1 rfl _ _ 22 3 .i64 8 rfl Tryd.underlying22 infoI w.heap.size oa n oc xs rfl (own2.alloc _) w2.heap.size 1 v rfl (new_cell1 _ _ _) (by omega) (by decide) (by simp; omega) ?_)
        intro a' c' w' ho hg
        have S2 := Lib.hid (AP.out a' c' _ w' (hb2.out.alloc hb2.out.size _) ho hg)
        clear AP ho hg own2 hb2
        go_wp2
        go_roundw
        case rel => exact ⟨i + 1, n + 1, a', c', rfl, rfl, rfl, by go_num, by omega, S2⟩
        case measure => simp [intOf]; omega
    · have hlI : ¬ (i : Int) < (nn : Int) := by omega
      have he : i = nn := by omega
      subst he
      have hf := Lib.hid (FIN.out n oa oc wr S.out)
      clear C FIN STP S
      go_wp2
      exact hf.out
set_option maxRecDepth 8000 in
set_option maxHeartbeats 4000000 in
theorem rnumbers_any (w : World) (hd : Door w) (a : Option Addr) (c : Nat) (N : List (List UInt8)) (hN : StrsAt w a N) (hl : N.length ≤ 1000000) (hs : ∀ f ∈ N, f.length ≤ 1000000) :
    Calls Tryd.prog 28 #[.slice a N.length c] w fun e w' => NumsV w (numsP N) e w' := by
  obtain ⟨PO, hPO⟩ : ∃ PO : Ending → World → Prop, PO = NumsV w (numsP N) := ⟨_, rfl⟩
  show Calls _ _ _ _ fun e w' => NumsV w (numsP N) e w'
  rw [← hPO]
  have C : Hid (∀ v, Below w.heap.size w v → ∀ i (hi : i < N.length), Calls Tryd.prog 49 #[.string ⟨N[i].toArray⟩] v fun e w' => e = .returned (.tuple #[.int .i64 (numP N[i]).1, .bool (numP N[i]).2]) ∧ Below v.heap.size v w') := fun v hb i hi => by rw [num_same]; exact rnumber_any v ⟨N[i].toArray⟩ (by have := hs _ (List.getElem_mem hi); show N[i].toArray.size ≤ _; rw [List.size_toArray]; omega)
  have FIN : Hid (∀ n oa oc wr, NmS w N N.length n oa oc wr → PO (.returned (.tuple #[.slice oa n oc, .bool true])) wr) := fun n oa oc wr h => by rw [hPO]; exact h.fin
  have STP : Hid (∀ i n oa oc wr w', NmS w N i n oa oc wr → (hi : i < N.length) → numN N[i] = none → Below wr.heap.size wr w' → PO (.returned (.tuple #[.slice none 0 0, .bool false])) w') := fun i n oa oc wr w' h hi hn hb => by rw [hPO]; exact h.stop hi hn hb
  have S0 := Lib.hid (NmS.start w N)
  obtain ⟨nn, hnn⟩ : ∃ nn, nn = N.length := ⟨_, rfl⟩
  rw [← hnn] at FIN ⊢
  have hnI : (nn : Int) ≤ 1000000 := by omega
  replace hnn := Lib.hid hnn
  replace hN := Lib.hid hN
  clear hPO hd hl hs
  go_enter Tryd.func28, Tryd.ntmps28
  go_wp2
  go_loopw [2, 3, 4, 5] (fun rv sv ov iv wr => ∃ (i n : Nat) (oa : Option Addr) (oc : Nat), rv = .slice none 0 0 ∧ sv = .bool false ∧ ov = .slice oa n oc ∧ iv = .int .i64 (i : Int) ∧ i ≤ nn ∧ Hid (NmS w N i n oa oc wr)) (fun _ _ _ iv _ => nn - (intOf iv).toNat)
  case atStart => exact ⟨0, 0, none, 0, rfl, rfl, rfl, rfl, Nat.zero_le _, S0⟩
  case round =>
    obtain ⟨i, n, oa, oc, rfl, rfl, rfl, rfl, hi, S⟩ := hrel
    clear S0
    by_cases hlt : i < nn
    · have hlI : (i : Int) < (nn : Int) := by omega
      have hiN : i < N.length := by have := hnn.out; omega
      have Z : Hid (Below w.heap.size w wr) := by obtain ⟨_, _, _, _, h4⟩ := S.out; exact h4
      obtain ⟨b, off, ea, hc⟩ := (hN.out.below Z.out) (by omega)
      have c1 := hc i hiN
      subst ea
      have C1 := C.out wr Z.out i hiN
      have hsm := S.out.small
      have SP := fun w' h hb => STP.out i n oa oc wr w' S.out hiN h hb
      have AP := fun v => S.out.app (v := v) hiN
      have NB := numN_bool N[i]
      generalize (⟨N[i].toArray⟩ : ByteArray) = q at c1 C1
      generalize numP N[i] = nb at C1 NB
      generalize numN N[i] = o at SP AP NB
      obtain ⟨v, bb⟩ := nb
      dsimp only at C1 NB
      clear hc STP C FIN hiN S Z
      rcases NB with ⟨ho, hb⟩ | ⟨ho, hb⟩
      · subst ho
        replace SP := Lib.hid (fun w' => SP w' rfl)
        replace C1 := Lib.hid C1
        clear AP
        cases bb with
        | false =>
          clear hb
          go_wp2_with fail
          refine C1.out.mono ?_
          rintro e w2 ⟨rfl, hb2⟩
          have hf := Lib.hid (SP.out w2 hb2)
          clear hb2 SP C1
          go_wp2
          exact hf.out
        | true =>
          have hv : v < 0 := by
            rw [Bool.true_and, decide_eq_false_iff_not] at hb
            omega
          have hvB : decide (v < 0) = true := decide_eq_true hv
          clear hb
          go_wp2_with fail
          refine C1.out.mono ?_
          rintro e w2 ⟨rfl, hb2⟩
          have hf := Lib.hid (SP.out w2 hb2)
          clear hb2 SP C1
          go_wp2
          exact hf.out
      · subst ho
        obtain ⟨xs, own, hsz, AP⟩ := AP v rfl
        rw [Bool.and_eq_true, decide_eq_true_iff] at hb
        obtain ⟨hbb, hv0⟩ := hb
        subst hbb
        have hv : ¬ v < 0 := by omega
        have hvB : decide (v < 0) = false := decide_eq_false hv
        replace C1 := Lib.hid C1
        clear hv0
        go_wp2_with fail
        refine C1.out.mono ?_
        rintro e w2 ⟨rfl, hb2⟩
        have own2 := own.keeps (S := fun _ => False) (Keeps.of_below hb2) (fun _ _ e => e)
        have hsz2 : w.heap.size ≤ w2.heap.size := Nat.le_trans hsz hb2.size
        replace hb2 := Lib.hid hb2
        replace AP := Lib.hid AP
        clear own C1 SP hsz
        go_wp2_with (at_builtin; refine wp_app1 rfl _ _ 22 3 .i64 8 rfl Tryd.underlying22 infoI w.heap.size oa n oc xs rfl (own2.alloc _) w2.heap.size 1 v rfl (new_cell1 _ _ _) (by omega) (by decide) (by simp; omega) ?_)
        intro a' c' w' ho hg
        have S2 := Lib.hid (AP.out a' c' _ w' (hb2.out.alloc hb2.out.size _) ho hg)
        clear AP ho hg own2 hb2
        go_wp2
        go_roundw
        case rel => exact ⟨i + 1, n + 1, a', c', rfl, rfl, rfl, by go_num, by omega, S2⟩
        case measure => simp [intOf]; omega
    · have hlI : ¬ (i : Int) < (nn : Int) := by omega
      have he : i = nn := by omega
      subst he
      have hf := Lib.hid (FIN.out n oa oc wr S.out)
      clear C FIN STP S
      go_wp2
      exact hf.out
end Go.Proofs.YtjacphcnanopjaaDoor
