/- The document's number of a text, walked. Conditions: short texts. -/
import Derived.Test.YtcbdldmejknfnaaDoorNumTextR
namespace Go.Proofs.YtcbdldmejknfnaaDoor
open Go.RowKit
set_option linter.unusedVariables false

def RNi (L : List UInt8) (i a b : Nat) : Prop := scanP (L.take i) (0, 0) = (a, b) ∧ b ≤ 8 ∧ a < 10 ^ b
theorem RNi.start (L : List UInt8) : RNi L 0 0 0 := ⟨rfl, by decide, by decide⟩
theorem RNi.snoc {L : List UInt8} {i a b : Nat} (h : RNi L i a b) (hi : i < L.length) : scanP (L.take (i + 1)) (0, 0) = scanP [L[i]] (a, b) := by
  rw [List.take_succ_eq_append_getElem hi, scan_append, h.1]
theorem RNi.go {L : List UInt8} {i a b : Nat} (h : RNi L i a b) (hi : i < L.length) {c : UInt8} (hc : c = L[i]) (h1 : 48 ≤ c.toNat) (h2 : c.toNat ≤ 57) (h3 : b < 8) : RNi L (i + 1) (a * 10 + (c.toNat - 48)) (b + 1) := by
  refine ⟨?_, by omega, ?_⟩
  · rw [h.snoc hi, ← hc]
    simp only [scanP]
    rw [if_pos ⟨h1, h2, h3⟩]
  · have := h.2.2
    rw [Nat.pow_succ]
    omega
theorem RNi.pass {L : List UInt8} {i a b : Nat} (h : RNi L i a b) (hi : i < L.length) {c : UInt8} (hc : c = L[i]) (h1 : ¬ (48 ≤ c.toNat ∧ c.toNat ≤ 57 ∧ b < 8)) : RNi L (i + 1) a b := by
  refine ⟨?_, h.2.1, h.2.2⟩
  rw [h.snoc hi, ← hc]
  simp only [scanP]
  rw [if_neg h1]
theorem data_at (s : ByteArray) (i : Nat) (h : i < s.size) (h' : i < s.data.toList.length) : s[i] = s.data.toList[i] := by
  cases s
  simp [ByteArray.getElem_eq_getElem_data]
theorem pow8 {a b : Nat} (h : a < 10 ^ b) (hb : b ≤ 8) : a < 100000000 := Nat.lt_of_lt_of_le h (Nat.pow_le_pow_right (by decide) hb)
theorem sign_neg {s : ByteArray} (h : 0 < s.size) (h1 : s[0].toNat = 45) (n : Nat) : signP s.data.toList n = -(n : Int) := by
  have hl : 0 < s.data.toList.length := by rw [Array.length_toList]; exact h
  rw [data_at s 0 h hl] at h1
  unfold signP
  cases hd : s.data.toList with
  | nil => rw [hd] at hl; cases hl
  | cons c r =>
    simp only [hd, List.getElem_cons_zero] at h1
    rw [if_pos (by rw [List.head?_cons]; congr 1; exact UInt8.toNat_inj.1 h1)]
theorem sign_pos {s : ByteArray} (h : ∀ h : 0 < s.size, ¬ s[0].toNat = 45) (n : Nat) : signP s.data.toList n = (n : Int) := by
  unfold signP
  cases hd : s.data.toList with
  | nil => rfl
  | cons c r =>
    have hl : 0 < s.data.toList.length := by rw [hd]; exact Nat.zero_lt_succ _
    have h0 : 0 < s.size := by rw [Array.length_toList] at hl; exact hl
    have h1 := h h0
    rw [data_at s 0 h0 hl] at h1
    simp only [hd, List.getElem_cons_zero] at h1
    rw [if_neg (by rw [List.head?_cons]; intro e; injection e with e; rw [e] at h1; exact h1 rfl)]
set_option maxHeartbeats 4000000 in
theorem rnumber_any (w : World) (s : ByteArray) (hs : s.size ≤ 281474976710656) :
    Calls Tryd.prog 7 #[.string s] w fun e w' => e = .returned (.tuple #[.int .i64 (rnumP s.data.toList).1, .bool (rnumP s.data.toList).2]) ∧ Below w.heap.size w w' := by
  obtain ⟨r, hr⟩ : ∃ r, r = rnumP s.data.toList := ⟨_, rfl⟩
  rw [← hr]
  replace hr := Lib.hid hr
  have ST := Lib.hid (RNi.start s.data.toList)
  go_enter Tryd.func7, Tryd.ntmps7
  go_wp2
  go_loop [4, 5, 6] (fun av bv iv => ∃ (i a b : Nat) (ai : Int), av = .int .i64 ai ∧ bv = .int .i64 (b : Int) ∧ iv = .int .i64 (i : Int) ∧ i ≤ s.size ∧ Hid (ai = (a : Int)) ∧ Hid (RNi s.data.toList i a b)) (fun _ _ iv => s.size - (intOf iv).toNat)
  case atStart => exact ⟨0, 0, 0, 0, rfl, rfl, rfl, Nat.zero_le _, rfl, ST⟩
  case round =>
    obtain ⟨i, a, b, ai, rfl, rfl, rfl, hi, hai, rn⟩ := hrel
    clear ST
    by_cases hil : i < s.size
    · have hiI : (i : Int) < (s.size : Int) := by omega
      have hlL : i < s.data.toList.length := by rw [Array.length_toList]; exact hil
      have hat := Lib.hid (data_at s i hil hlL)
      have ha0 : 0 ≤ ai := by rw [hai.out]; omega
      have ha8 : ai ≤ 99999999 := by have := pow8 rn.out.2.2 rn.out.2.1; rw [hai.out]; omega
      replace hlL := Lib.hid hlL
      go_wp2
      all_goals first
        | exact ⟨⟨i + 1, a * 10 + (s[i].toNat - 48), b + 1, _, rfl, rfl, rfl, by omega, by show _ = _; have := hai.out; omega, rn.out.go hlL.out hat.out (by omega) (by omega) (by omega)⟩, by simp [intOf]; omega⟩
        | exact ⟨⟨i + 1, a, b, _, rfl, rfl, rfl, by omega, hai, rn.out.pass hlL.out hat.out (fun h => by omega)⟩, by simp [intOf]; omega⟩
    · obtain rfl : i = s.size := by omega
      have hfin : Hid (scanP s.data.toList (0, 0) = (a, b) ∧ b ≤ 8 ∧ a < 100000000) := by
        obtain ⟨h1, h2, h3⟩ := rn.out
        rw [List.take_of_length_le (by rw [Array.length_toList]; exact Nat.le_refl _)] at h1
        exact ⟨h1, h2, pow8 h3 h2⟩
      clear rn
      have ha0 : 0 ≤ ai := by rw [hai.out]; omega
      have ha8 : ai ≤ 99999999 := by have := hfin.out.2.2; rw [hai.out]; omega
      have hiI : ¬ (s.size : Int) < (s.size : Int) := by omega
      have HR : Hid (∀ v, signP s.data.toList a = v → r = if b ≤ 7 ∧ within6 v = true ∧ Lib.itoa v = s.data.toList then (v, true) else (0, false)) := fun v hv => by
        have h := hr.out
        unfold rnumP at h
        rw [hfin.out.1] at h
        simp only [hv] at h
        exact h
      clear hil hi
      by_cases hneg : ∃ h : 0 < s.size, s[0].toNat = 45
      · obtain ⟨h0, h45⟩ := hneg
        have h0I : (0 : Int) < (s.size : Int) := by omega
        have hsg := sign_neg h0 h45 a
        rw [← hai.out] at hsg
        have hr2 := HR.out _ hsg
        have h45I : ((s[0].toNat : Int) == 45) = true := by rw [h45]; rfl
        clear hsg HR hr
        have hV0 : -99999999 ≤ (-ai) := by omega
        have hV1 : (-ai) ≤ 99999999 := by omega
        have D := Lib.hid (fun w => rdecimal_any w (-ai) (by omega) (by omega))
        by_cases hb7 : b ≤ 7
        · have hb7I : ¬ (7 : Int) < (b : Int) := by omega
          cases hw : within6 (-ai) with
          | false =>
            have hr3 : r = (0, false) := by rw [hr2, hw, if_neg (fun h => by cases h.2.1)]
            subst hr3
            have hfb : decide (fB (-ai)) = false := by rw [← hw]; rfl
            replace hfb := Lib.hid hfb
            clear hr2 hw
            go_wp2_with fail
            refine (rwithin_any _ (-ai)).mono ?_
            rintro e w1 ⟨rfl, rfl⟩
            rw [hfb.out]
            go_wp2
            go_ret2
            exact ⟨rfl, Below.refl _ _⟩
          | true =>
            have hfb : decide (fB (-ai)) = true := by rw [← hw]; rfl
            replace hfb := Lib.hid hfb
            by_cases hq : Lib.itoa (-ai) = s.data.toList
            · have hr3 : r = ((-ai), true) := by rw [hr2, hw, if_pos ⟨hb7, rfl, hq⟩]
              subst hr3
              have hqe : (⟨(Lib.itoa (-ai)).toArray⟩ : ByteArray) = s := (str_eq _ _).2 hq
              rw [hqe] at D
              clear hr2 hw hq hqe
              go_wp2_with fail
              refine (rwithin_any _ (-ai)).mono ?_
              rintro e w1 ⟨rfl, rfl⟩
              rw [hfb.out]
              go_wp2_with fail
              refine (D.out _).mono ?_
              rintro e w2 ⟨rfl, hb2⟩
              go_wp2
              go_ret2
              exact ⟨rfl, hb2⟩
            · have hr3 : r = (0, false) := by rw [hr2, if_neg (fun h => hq h.2.2)]
              subst hr3
              obtain ⟨u, hu⟩ : ∃ u : ByteArray, u = ⟨(Lib.itoa (-ai)).toArray⟩ := ⟨_, rfl⟩
              have hqb := str_no (fun h => hq ((str_eq _ _).1 (hu.symm.trans h)))
              rw [← hu] at D
              clear hr2 hw hq hu
              go_wp2_with fail
              refine (rwithin_any _ (-ai)).mono ?_
              rintro e w1 ⟨rfl, rfl⟩
              rw [hfb.out]
              go_wp2_with fail
              refine (D.out _).mono ?_
              rintro e w2 ⟨rfl, hb2⟩
              go_wp2
              go_ret2
              exact ⟨rfl, hb2⟩
        · have hb7I : (7 : Int) < (b : Int) := by omega
          have hr3 : r = (0, false) := by rw [hr2, if_neg (fun h => hb7 h.1)]
          subst hr3
          clear hr2
          go_wp2
          go_ret2
          exact ⟨rfl, Below.refl _ _⟩
      · have hsg := sign_pos (fun h e => hneg ⟨h, e⟩) a
        rw [← hai.out] at hsg
        have hr2 := HR.out _ hsg
        by_cases h0 : 0 < s.size
        · have h0I : (0 : Int) < (s.size : Int) := by omega
          have h45 : ¬ s[0].toNat = 45 := fun e => hneg ⟨h0, e⟩
          have h45I : ((s[0].toNat : Int) == 45) = false := by rw [beq_eq_false_iff_ne]; omega
          clear hneg
          clear hsg HR hr
          have hV0 : -99999999 ≤ ai := by omega
          have hV1 : ai ≤ 99999999 := by omega
          have D := Lib.hid (fun w => rdecimal_any w ai (by omega) (by omega))
          by_cases hb7 : b ≤ 7
          · have hb7I : ¬ (7 : Int) < (b : Int) := by omega
            cases hw : within6 ai with
            | false =>
              have hr3 : r = (0, false) := by rw [hr2, hw, if_neg (fun h => by cases h.2.1)]
              subst hr3
              have hfb : decide (fB ai) = false := by rw [← hw]; rfl
              replace hfb := Lib.hid hfb
              clear hr2 hw
              go_wp2_with fail
              refine (rwithin_any _ ai).mono ?_
              rintro e w1 ⟨rfl, rfl⟩
              rw [hfb.out]
              go_wp2
              go_ret2
              exact ⟨rfl, Below.refl _ _⟩
            | true =>
              have hfb : decide (fB ai) = true := by rw [← hw]; rfl
              replace hfb := Lib.hid hfb
              by_cases hq : Lib.itoa ai = s.data.toList
              · have hr3 : r = (ai, true) := by rw [hr2, hw, if_pos ⟨hb7, rfl, hq⟩]
                subst hr3
                have hqe : (⟨(Lib.itoa ai).toArray⟩ : ByteArray) = s := (str_eq _ _).2 hq
                rw [hqe] at D
                clear hr2 hw hq hqe
                go_wp2_with fail
                refine (rwithin_any _ ai).mono ?_
                rintro e w1 ⟨rfl, rfl⟩
                rw [hfb.out]
                go_wp2_with fail
                refine (D.out _).mono ?_
                rintro e w2 ⟨rfl, hb2⟩
                go_wp2
                go_ret2
                exact ⟨rfl, hb2⟩
              · have hr3 : r = (0, false) := by rw [hr2, if_neg (fun h => hq h.2.2)]
                subst hr3
                obtain ⟨u, hu⟩ : ∃ u : ByteArray, u = ⟨(Lib.itoa ai).toArray⟩ := ⟨_, rfl⟩
                have hqb := str_no (fun h => hq ((str_eq _ _).1 (hu.symm.trans h)))
                rw [← hu] at D
                clear hr2 hw hq hu
                go_wp2_with fail
                refine (rwithin_any _ ai).mono ?_
                rintro e w1 ⟨rfl, rfl⟩
                rw [hfb.out]
                go_wp2_with fail
                refine (D.out _).mono ?_
                rintro e w2 ⟨rfl, hb2⟩
                go_wp2
                go_ret2
                exact ⟨rfl, hb2⟩
          · have hb7I : (7 : Int) < (b : Int) := by omega
            have hr3 : r = (0, false) := by rw [hr2, if_neg (fun h => hb7 h.1)]
            subst hr3
            clear hr2
            go_wp2
            go_ret2
            exact ⟨rfl, Below.refl _ _⟩
        · have h0I : ¬ (0 : Int) < (s.size : Int) := by omega
          clear hneg
          clear hsg HR hr
          have hV0 : -99999999 ≤ ai := by omega
          have hV1 : ai ≤ 99999999 := by omega
          have D := Lib.hid (fun w => rdecimal_any w ai (by omega) (by omega))
          by_cases hb7 : b ≤ 7
          · have hb7I : ¬ (7 : Int) < (b : Int) := by omega
            cases hw : within6 ai with
            | false =>
              have hr3 : r = (0, false) := by rw [hr2, hw, if_neg (fun h => by cases h.2.1)]
              subst hr3
              have hfb : decide (fB ai) = false := by rw [← hw]; rfl
              replace hfb := Lib.hid hfb
              clear hr2 hw
              go_wp2_with fail
              refine (rwithin_any _ ai).mono ?_
              rintro e w1 ⟨rfl, rfl⟩
              rw [hfb.out]
              go_wp2
              go_ret2
              exact ⟨rfl, Below.refl _ _⟩
            | true =>
              have hfb : decide (fB ai) = true := by rw [← hw]; rfl
              replace hfb := Lib.hid hfb
              by_cases hq : Lib.itoa ai = s.data.toList
              · have hr3 : r = (ai, true) := by rw [hr2, hw, if_pos ⟨hb7, rfl, hq⟩]
                subst hr3
                have hqe : (⟨(Lib.itoa ai).toArray⟩ : ByteArray) = s := (str_eq _ _).2 hq
                rw [hqe] at D
                clear hr2 hw hq hqe
                go_wp2_with fail
                refine (rwithin_any _ ai).mono ?_
                rintro e w1 ⟨rfl, rfl⟩
                rw [hfb.out]
                go_wp2_with fail
                refine (D.out _).mono ?_
                rintro e w2 ⟨rfl, hb2⟩
                go_wp2
                go_ret2
                exact ⟨rfl, hb2⟩
              · have hr3 : r = (0, false) := by rw [hr2, if_neg (fun h => hq h.2.2)]
                subst hr3
                obtain ⟨u, hu⟩ : ∃ u : ByteArray, u = ⟨(Lib.itoa ai).toArray⟩ := ⟨_, rfl⟩
                have hqb := str_no (fun h => hq ((str_eq _ _).1 (hu.symm.trans h)))
                rw [← hu] at D
                clear hr2 hw hq hu
                go_wp2_with fail
                refine (rwithin_any _ ai).mono ?_
                rintro e w1 ⟨rfl, rfl⟩
                rw [hfb.out]
                go_wp2_with fail
                refine (D.out _).mono ?_
                rintro e w2 ⟨rfl, hb2⟩
                go_wp2
                go_ret2
                exact ⟨rfl, hb2⟩
          · have hb7I : (7 : Int) < (b : Int) := by omega
            have hr3 : r = (0, false) := by rw [hr2, if_neg (fun h => hb7 h.1)]
            subst hr3
            clear hr2
            go_wp2
            go_ret2
            exact ⟨rfl, Below.refl _ _⟩
end Go.Proofs.YtcbdldmejknfnaaDoor
