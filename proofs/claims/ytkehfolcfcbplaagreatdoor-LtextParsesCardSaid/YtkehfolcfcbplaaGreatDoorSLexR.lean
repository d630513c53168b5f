/- How many runes from the beginning on are of a kind, walked. No conditions but short texts. -/
import Derived.Test.YtkehfolcfcbplaaGreatDoorSLexN
import Derived.Test.YtkehfolcfcbplaaGreatDoorSLexU
import Derived.Lib.OthersKept
namespace Go.Proofs.YtkehfolcfcbplaaGreatDoor
open Go.RowKit
set_option linter.unusedVariables false
def lettI (c : Int) : Bool := (decide (97 ≤ c) && decide (c ≤ 122)) || (decide (65 ≤ c) && decide (c ≤ 90))
def digI (c : Int) : Bool := decide (48 ≤ c) && decide (c ≤ 57)
def partI (c : Int) : Bool := lettI c || digI c || decide (c = 95)
theorem letter_any (w : World) (c : Int) : Calls Tryz.prog 49 #[.int .i32 c] w fun e w' => e = .returned (.bool (lettI c)) ∧ w' = w := by
  unfold lettI
  by_cases h1 : 97 ≤ c <;> by_cases h2 : c ≤ 122 <;> by_cases h3 : 65 ≤ c <;> by_cases h4 : c ≤ 90 <;> first
    | (exfalso; omega)
    | (simp only [h1, h2, h3, h4, decide_true, decide_false, Bool.and_true, Bool.and_false, Bool.or_true, Bool.or_false, Bool.true_or, Bool.false_or, Bool.and_self, Bool.or_self, Bool.true_and, Bool.false_and]
       go_enter Tryz.func49, Tryz.ntmps49
       go_wp2
       go_ret
       exact ⟨rfl, rfl⟩)
theorem digit_any (w : World) (c : Int) : Calls Tryz.prog 50 #[.int .i32 c] w fun e w' => e = .returned (.bool (digI c)) ∧ w' = w := by
  unfold digI
  by_cases h1 : 48 ≤ c <;> by_cases h2 : c ≤ 57 <;> first
    | (exfalso; omega)
    | (simp only [h1, h2, decide_true, decide_false, Bool.and_true, Bool.and_false, Bool.and_self]
       go_enter Tryz.func50, Tryz.ntmps50
       go_wp2
       go_ret
       exact ⟨rfl, rfl⟩)
theorem part_any (w : World) (c : Int) : Calls Tryz.prog 48 #[.int .i32 c] w fun e w' => e = .returned (.bool (partI c)) ∧ w' = w := by
  have L := Lib.hid (letter_any w c)
  have D := Lib.hid (digit_any w c)
  unfold partI
  cases hl : lettI c with
  | true =>
    rw [hl] at L
    simp only [Bool.true_or]
    clear D
    go_enter Tryz.func48, Tryz.ntmps48
    go_wp2_with fail
    refine L.out.mono ?_
    rintro e w1 ⟨rfl, rfl⟩
    go_wp2
    go_ret
    exact ⟨rfl, rfl⟩
  | false =>
    rw [hl] at L
    cases hd : digI c with
    | true =>
      rw [hd] at D
      simp only [Bool.true_or, Bool.false_or]
      go_enter Tryz.func48, Tryz.ntmps48
      go_wp2_with fail
      refine L.out.mono ?_
      rintro e w1 ⟨rfl, rfl⟩
      go_wp2_with fail
      refine D.out.mono ?_
      rintro e w1 ⟨rfl, rfl⟩
      go_wp2
      go_ret
      exact ⟨rfl, rfl⟩
    | false =>
      rw [hd] at D
      simp only [Bool.false_or]
      by_cases h : c = 95
      · subst h
        go_enter Tryz.func48, Tryz.ntmps48
        go_wp2_with fail
        refine L.out.mono ?_
        rintro e w1 ⟨rfl, rfl⟩
        go_wp2_with fail
        refine D.out.mono ?_
        rintro e w1 ⟨rfl, rfl⟩
        go_wp2
        go_ret
        exact ⟨rfl, rfl⟩
      · have hb : (c == 95) = false := by simpa using h
        rw [decide_eq_false h]
        go_enter Tryz.func48, Tryz.ntmps48
        go_wp2_with fail
        refine L.out.mono ?_
        rintro e w1 ⟨rfl, rfl⟩
        go_wp2_with fail
        refine D.out.mono ?_
        rintro e w1 ⟨rfl, rfl⟩
        go_wp2
        go_ret
        exact ⟨rfl, rfl⟩
theorem line_any (w : World) (c : Int) : Calls Tryz.prog 47 #[.int .i32 c] w fun e w' => e = .returned (.bool (decide (c ≠ 10))) ∧ w' = w := by
  by_cases h : c = 10
  · subst h
    go_enter Tryz.func47, Tryz.ntmps47
    go_wp2
    go_ret
    exact ⟨rfl, rfl⟩
  · have hb : (c == 10) = false := by simpa using h
    rw [decide_eq_true h]
    go_enter Tryz.func47, Tryz.ntmps47
    go_wp2
    go_ret
    exact ⟨by show Ending.returned (.bool (c != 10)) = _; rw [bne, hb]; rfl, rfl⟩
structure OfB (of : Int → Bool) (p : UInt8 → Bool) (hi : Bool) : Prop where
  low : ∀ b : UInt8, b.toNat < 128 → of (b.toNat : Int) = p b
  hiC : ∀ c : Int, 128 ≤ c → of c = hi
  hiB : ∀ b : UInt8, 128 ≤ b.toNat → p b = hi
theorem get_at (s : ByteArray) (i : Nat) (h : i < s.size) : s.get! i = s[i] := getElem!_pos s.data i h
theorem ofPart : OfB partI isPart false := by
  refine ⟨fun b hb => ?_, fun c hc => ?_, fun b hb => ?_⟩
  · unfold partI lettI digI isPart isLet isDig
    rw [show decide ((97 : Int) ≤ (b.toNat : Int)) = decide (97 ≤ b.toNat) from decide_eq_decide.2 (by omega), show decide ((b.toNat : Int) ≤ (122 : Int)) = decide (b.toNat ≤ 122) from decide_eq_decide.2 (by omega), show decide ((65 : Int) ≤ (b.toNat : Int)) = decide (65 ≤ b.toNat) from decide_eq_decide.2 (by omega), show decide ((b.toNat : Int) ≤ (90 : Int)) = decide (b.toNat ≤ 90) from decide_eq_decide.2 (by omega), show decide ((48 : Int) ≤ (b.toNat : Int)) = decide (48 ≤ b.toNat) from decide_eq_decide.2 (by omega), show decide ((b.toNat : Int) ≤ (57 : Int)) = decide (b.toNat ≤ 57) from decide_eq_decide.2 (by omega), show decide ((b.toNat : Int) = (95 : Int)) = decide (b.toNat = 95) from decide_eq_decide.2 (by omega)]
  · unfold partI lettI digI
    have : ¬ c ≤ 122 ∧ ¬ c ≤ 90 ∧ ¬ c ≤ 57 ∧ ¬ c = 95 := by omega
    simp [this]
  · unfold isPart isLet isDig
    have : ¬ b.toNat ≤ 122 ∧ ¬ b.toNat ≤ 90 ∧ ¬ b.toNat ≤ 57 ∧ ¬ b.toNat = 95 := by omega
    simp [this]
theorem ofDig : OfB digI isDig false := by
  refine ⟨fun b hb => ?_, fun c hc => ?_, fun b hb => ?_⟩
  · unfold digI isDig
    rw [show decide ((48 : Int) ≤ (b.toNat : Int)) = decide (48 ≤ b.toNat) from decide_eq_decide.2 (by omega), show decide ((b.toNat : Int) ≤ (57 : Int)) = decide (b.toNat ≤ 57) from decide_eq_decide.2 (by omega)]
  · unfold digI
    have : ¬ c ≤ 57 := by omega
    simp [this]
  · unfold isDig
    have : ¬ b.toNat ≤ 57 := by omega
    simp [this]
def notNl (b : UInt8) : Bool := decide (b.toNat ≠ 10)
theorem ofLine : OfB (fun c => decide (c ≠ 10)) notNl true := by
  refine ⟨fun b hb => ?_, fun c hc => ?_, fun b hb => ?_⟩
  · unfold notNl; apply decide_eq_decide.2; omega
  · apply decide_eq_true; omega
  · apply decide_eq_true; omega
def AllP (p : UInt8 → Bool) (L : List UInt8) (k : Nat) : Prop := ∀ j, j < k → ∀ b, L[j]? = some b → p b = true
theorem runB_all : ∀ {p : UInt8 → Bool} {L : List UInt8} {k : Nat}, AllP p L k → k ≤ L.length → runB p L = k + runB p (L.drop k)
  | p, L, 0, _, _ => by rw [List.drop_zero, Nat.zero_add]
  | p, [], k + 1, _, hk => by simp at hk
  | p, c :: L, k + 1, h, hk => by
    have hc : p c = true := h 0 (Nat.zero_lt_succ _) c rfl
    have ih := runB_all (p := p) (L := L) (k := k) (fun j hj b hb => h (j + 1) (by omega) b (by simpa using hb)) (by simpa using hk)
    rw [runB, if_pos hc, ih, List.drop_succ_cons]
    omega
theorem AllP.snoc {p : UInt8 → Bool} {L : List UInt8} {k : Nat} (h : AllP p L k) {m : Nat} (hm : ∀ j, k ≤ j → j < m → ∀ b, L[j]? = some b → p b = true) : AllP p L m := fun j hj b hb => by
  by_cases h1 : j < k
  · exact h j h1 b hb
  · exact hm j (by omega) hj b hb
set_option maxHeartbeats 4000000 in
theorem run_any (w : World) (s : ByteArray) (hs : s.size ≤ 281474976710656) (f : Nat) (of : Int → Bool) (p : UInt8 → Bool) (hi : Bool) (O : OfB of p hi)
    (C : ∀ v c, Calls Tryz.prog f #[.int .i32 c] v fun e w' => e = .returned (.bool (of c)) ∧ w' = v) (hE : ∀ args v, (callFunc f args).run Tryz.prog v = .ok (.enter f args) v) (fv : Value) (hf : fv = .func (.func f) #[] #[]) :
    Calls Tryz.prog 46 #[.string s, fv] w fun e w' => e = .returned (.int .i64 (runB p s.data.toList : Int)) ∧ Below w.heap.size w w' := by
  subst hf
  obtain ⟨L, hL⟩ : ∃ L, L = s.data.toList := ⟨_, rfl⟩
  have hLn : s.size = L.length := by rw [hL, Array.length_toList]; rfl
  have hk0 : (w.iter s 0).heap[w.heap.size]? = some (.stringIter s 0) := by
    have h5 := World.iter_heap w s 0
    simpa using h5
  have hb0 : Below w.heap.size w (w.iter s 0) := (Below.refl _ w).alloc (Nat.le_refl _) _
  rw [← hL]
  obtain ⟨res, hres⟩ : ∃ res : Int, res = (runB p L : Int) := ⟨_, rfl⟩
  rw [← hres]
  replace hres := Lib.hid hres
  replace hL := Lib.hid hL
  replace hLn := Lib.hid hLn
  replace C := Lib.hid C
  replace O := Lib.hid O
  have hA0 : Hid (AllP p L 0) := fun j hj => by omega
  go_enter Tryz.func46, Tryz.ntmps46
  go_wp2
  go_loopw [4] (fun v wr => ∃ pos : Nat, v = .int .i64 0 ∧ pos ≤ s.size ∧ wr.heap[w.heap.size]? = some (.stringIter s pos) ∧ Hid (AllP p L pos) ∧ Below w.heap.size w wr) (fun _ wr => s.size - wr.iterPos w.heap.size)
  case atStart => exact ⟨0, rfl, Nat.zero_le _, hk0, hA0, hb0⟩
  case round =>
    obtain ⟨pos, rfl, hps, hk, hA, hnx⟩ := hrel
    clear hk0 hA0 hb0
    by_cases hp : pos < s.size
    · have hnext : ∀ ty, (Instr.next (.pointer (some ⟨w.heap.size, 0, none⟩)) true ty).run Tryz.prog wr = _ := fun ty => Lib.run_next_any_at wr w.heap.size s pos ty hk hp
      have hk1 := Lib.iterAt_heap wr w.heap.size s pos (pos + (Utf8.decode s pos).2) hk
      have hnx1 : Below w.heap.size w (wr.iterAt w.heap.size s (pos + (Utf8.decode s pos).2)) := Lib.below_iterAt hnx (Nat.le_refl _) s _
      have hmu : wr.iterPos w.heap.size = pos := by simp [World.iterPos, hk]
      have hdec : Hid ((of ((Utf8.decode s pos).1 : Int) = true → pos + (Utf8.decode s pos).2 ≤ s.size ∧ pos < pos + (Utf8.decode s pos).2 ∧ AllP p L (pos + (Utf8.decode s pos).2)) ∧ (of ((Utf8.decode s pos).1 : Int) = false → res = (pos : Int))) := by
        have hb := s[pos]
        have hat : L[pos]? = some s[pos] := by
          rw [hL.out, List.getElem?_eq_getElem (by rw [← hL.out, ← hLn.out]; exact hp), ← data_at s pos hp]
        have hfin : p s[pos] = false → res = (pos : Int) := fun hpb => by
          rw [hres.out, runB_all hA.out (by rw [← hLn.out]; exact hps), List.drop_eq_getElem_cons (by rw [← hLn.out]; exact hp)]
          have e : L[pos]'(by rw [← hLn.out]; exact hp) = s[pos] := by
            have := hat
            rw [List.getElem?_eq_getElem (by rw [← hLn.out]; exact hp)] at this
            exact Option.some.inj this
          rw [e, runB, if_neg (by rw [hpb]; decide)]
          rfl
        by_cases h128 : (s[pos]).toNat < 128
        · rw [decode_ascii s pos hp h128]
          dsimp only
          rw [O.out.low _ h128]
          refine ⟨fun h => ⟨by omega, by omega, hA.out.snoc (fun j h1 h2 b hb => ?_)⟩, hfin⟩
          obtain rfl : j = pos := by omega
          rw [hat] at hb
          cases hb
          exact h
        · have hh := decode_high s pos hp (by omega)
          rw [O.out.hiC _ (by omega)]
          have hg := get_at s pos hp
          have hw := decode_wide s pos hp (by rw [hg]; omega)
          refine ⟨fun h => ⟨?_, by omega, hA.out.snoc (fun j h1 h2 b hb => ?_)⟩, fun h => hfin (by rw [O.out.hiB _ (by omega)]; exact h)⟩
          · have := (hw (pos + (Utf8.decode s pos).2 - 1) (by omega) (by omega)).1
            omega
          · obtain ⟨j1, j2⟩ := hw j h1 h2
            have hg := get_at s j j1
            have hj : L[j]? = some s[j] := by
              rw [hL.out, List.getElem?_eq_getElem (by rw [← hL.out, ← hLn.out]; exact j1), ← data_at s j j1]
            rw [hj] at hb
            cases hb
            rw [O.out.hiB _ (by rw [← hg]; exact j2)]
            exact h
      generalize (Utf8.decode s pos).1 = r at hnext hdec
      generalize (Utf8.decode s pos).2 = wd at hnext hk1 hnx1 hdec
      generalize wr.iterAt w.heap.size s (pos + wd) = W1 at hnext hk1 hnx1
      clear hk hA hnx
      go_wp2_with fail
      refine (C.out W1 _).mono ?_
      rintro e W2 ⟨rfl, rfl⟩
      cases hof : of (r : Int) with
      | false =>
        have hr := Lib.hid (hdec.out.2 hof)
        clear hdec hof
        go_wp2
        go_ret
        exact ⟨by rw [hr.out]; rfl, hnx1⟩
      | true =>
        obtain ⟨q1, q2, q3⟩ := hdec.out.1 hof
        replace q3 := Lib.hid q3
        clear hdec hof
        go_wp2
        go_roundw
        case rel => exact ⟨pos + wd, rfl, q1, hk1, q3, hnx1⟩
        case measure =>
          have hmu2 : W2.iterPos w.heap.size = pos + wd := by simp [World.iterPos, hk1]
          rw [hmu, hmu2]
          omega
    · have hnext : ∀ ty, (Instr.next (.pointer (some ⟨w.heap.size, 0, none⟩)) true ty).run Tryz.prog wr = _ := fun ty => Lib.run_next_end_at wr w.heap.size s pos ty hk hp
      have hr : Hid (res = (s.size : Int)) := by
        have h1 := runB_all hA.out (by rw [← hLn.out]; exact hps)
        rw [List.drop_of_length_le (by rw [← hLn.out]; omega)] at h1
        show res = _
        rw [hres.out, h1]
        have : runB p [] = 0 := rfl
        rw [this]
        omega
      clear hA
      go_wp2
      go_ret
      exact ⟨by rw [hr.out]; rfl, hnx⟩
end Go.Proofs.YtkehfolcfcbplaaGreatDoor
