/- What is wrong with the bytes of a number: the walks of IndexFunc and wrong. Conditions: bytes. -/
import Derived.Test.YtpnkfhfaoomdpaaOctetRd
import Derived.Test.YtpnkfhfaoomdpaaCut
namespace Go.Proofs.Ytpnkfhfaoomdpaa
open Go.RowKit

namespace Octet
/-- how many bytes lead that say that more come -/
def lead : List Int → Nat
  | [] => 0
  | b :: l => if 128 ≤ b then lead l + 1 else 0
theorem lead_le : ∀ l, lead l ≤ l.length
  | [] => Nat.le_refl _
  | b :: l => by
    have := lead_le l
    simp only [lead, List.length_cons]
    split <;> omega
theorem lead_big : ∀ (l : List Int) (j : Nat), j < lead l → 128 ≤ l.getD j 0
  | b :: l, 0, h => by
    simp only [lead] at h
    split at h
    · simpa
    · omega
  | b :: l, j + 1, h => by
    simp only [lead] at h
    split at h
    · simpa using lead_big l j (by omega)
    · omega
theorem lead_small : ∀ (l : List Int), lead l < l.length → l.getD (lead l) 0 < 128
  | b :: l, h => by
    by_cases hb : 128 ≤ b
    · simp only [lead, if_pos hb, List.length_cons] at h ⊢
      simpa using lead_small l (by omega)
    · simp only [lead, if_neg hb]
      simpa using hb
theorem lead_eq (l : List Int) (k : Nat) (h1 : ∀ j, j < k → 128 ≤ l.getD j 0) (h2 : k < l.length → l.getD k 0 < 128) (h3 : k ≤ l.length) : lead l = k := by
  rcases Nat.lt_trichotomy (lead l) k with h | h | h
  · have := h1 _ h
    have := lead_small l (by omega)
    omega
  · exact h
  · have := lead_big l _ h
    have := lead_le l
    have := h2 (by omega)
    omega
/-- what is wrong with the bytes of a number -/
def err (l : List Int) : Int := if 10 ≤ lead l then 3 else if lead l = l.length then 4 else if (lead l = 9 ∧ 1 < l.getD 9 0) ∨ (0 < lead l ∧ l.getD (lead l) 0 = 0) then 3 else 0
end Octet

theorem small_any (w : World) (x : Int) : Calls Try.prog 41 #[.int .u8 x] w fun e w' => e = .returned (.bool (decide (x < 128))) ∧ w = w' := by
  go_enter Try.func41, Try.ntmps41
  go_wp2
  go_ret
  exact ⟨rfl, rfl⟩

theorem idx_any (w : World) (a1 : Option Addr) (n1 c1 : Nat) (xs : List Int) (h1 : NumsAt .u8 w a1 xs) (hn1 : n1 = xs.length) (b1 : n1 ≤ 10000) :
    Calls Try.prog 40 #[.slice a1 n1 c1, .func (.func 41) #[] #[]] w fun e w' => e = .returned (.int .i64 (if Octet.lead xs < xs.length then (Octet.lead xs : Int) else -1)) ∧ Quiet w w' := by
  subst hn1
  generalize hv : (if Octet.lead xs < xs.length then (Octet.lead xs : Int) else -1) = v
  have HV := Lib.hid hv
  clear hv
  go_enter Try.func40, Try.ntmps40
  go_wp2
  go_loopw [8] (fun i wr => ∃ k n : Nat, k ≤ xs.length ∧ i = .int .i64 k ∧ wr = w.drewN n ∧ Hid (∀ j, j < k → 128 ≤ xs.getD j 0)) (fun i _ => xs.length - (intOf i).toNat)
  case atStart => exact ⟨0, 0, Nat.zero_le _, rfl, rfl, fun j hj => by omega⟩
  case round =>
    obtain ⟨k, n, hk, rfl, rfl, hall⟩ := hrel
    by_cases hlt : k < xs.length
    · obtain ⟨b, off, x, rfl, cx, hx⟩ := h1.at k hlt
      by_cases hs : x < 128
      · have hd : decide (x < 128) = true := decide_eq_true hs
        have hf : Hid (Octet.lead xs = k) := Octet.lead_eq xs k hall.out (fun _ => by rw [← hx.out]; exact hs) hk
        go_wp2_with (go_at_call 41; refine (small_any _ _).mono ?_; rintro e w9 ⟨rfl, rfl⟩)
        go_ret
        refine ⟨?_, Quiet.one _ _⟩
        rw [← HV.out, hf.out, if_pos hlt]
        rfl
      · have hd : decide (x < 128) = false := decide_eq_false hs
        go_wp2_with (go_at_call 41; refine (small_any _ _).mono ?_; rintro e w9 ⟨rfl, rfl⟩)
        go_roundw
        case rel =>
          refine ⟨k + 1, n, by omega, by go_num, rfl, fun j hj => ?_⟩
          by_cases hjk : j = k
          · subst hjk; rw [← hx.out]; omega
          · exact hall.out j (by omega)
        case measure => simp [intOf]; omega
    · obtain rfl : k = xs.length := by omega
      have hf : Hid (Octet.lead xs = xs.length) := Octet.lead_eq xs _ hall.out (fun h => by omega) hk
      go_wp2
      go_ret
      refine ⟨?_, Quiet.one _ _⟩
      rw [← HV.out, hf.out, if_neg (by omega)]
      rfl

theorem Try.sizeByte (w : World) : (sizeOf 5).run Try.prog w = .ok 1 w := by kernel_rfl
set_option maxHeartbeats 1000000 in
theorem wrong_any (w : World) (a1 : Option Addr) (n1 c1 : Nat) (xs : List Int) (h1 : NumsAt .u8 w a1 xs) (hn1 : n1 = xs.length) (b1 : n1 ≤ 10000) (hc : n1 ≤ c1) (hx : ∀ x ∈ xs, 0 ≤ x ∧ x ≤ 255) :
    Calls Try.prog 34 #[.slice a1 n1 c1] w fun e w' => e = .returned (.tuple #[.int .i64 (if Octet.err xs = 0 then (Octet.lead xs : Int) + 1 else 0), .int .i64 (Octet.err xs)]) ∧ Quiet w w' := by
  subst hn1
  obtain ⟨m, hm⟩ : ∃ m, m = min xs.length 10 := ⟨_, rfl⟩
  have C := Lib.hid (idx_any w a1 (xs.take m).length c1 (xs.take m) (h1.upto m) rfl (by simp; omega))
  have hl := Octet.lead_le xs
  have ht : Octet.lead (xs.take m) = min (Octet.lead xs) m := by
    refine Octet.lead_eq _ _ (fun j hj => ?_) (fun h => ?_) (by simp; omega)
    · have := Octet.lead_big xs j (by omega)
      rw [List.getD_eq_getElem?_getD, List.getElem?_take, if_pos (by omega), ← List.getD_eq_getElem?_getD]
      exact this
    · rw [List.length_take] at h
      have := Octet.lead_small xs (by omega)
      rw [List.getD_eq_getElem?_getD, List.getElem?_take, if_pos (by omega), ← List.getD_eq_getElem?_getD]
      rw [show min (Octet.lead xs) m = Octet.lead xs by omega]
      exact this
  rw [ht, List.length_take] at C
  obtain ⟨v, hv⟩ : ∃ v, v = if min (Octet.lead xs) m < min m xs.length then ((min (Octet.lead xs) m : Nat) : Int) else -1 := ⟨_, rfl⟩
  rw [← hv] at C
  clear ht
  rw [show min m xs.length = m by omega] at C hv
  have key : ∀ (H : (xs.length ≤ 10 ∧ m = xs.length) ∨ (10 < xs.length ∧ m = 10)), Calls Try.prog 34 #[.slice a1 xs.length c1] w fun e w' => e = .returned (.tuple #[.int .i64 (if Octet.err xs = 0 then (Octet.lead xs : Int) + 1 else 0), .int .i64 (Octet.err xs)]) ∧ Quiet w w' := by
    intro H
    have hs1 := fun w => run_cut_h (P := Try.prog) Try.underlying25 Try.sizeByte a1 xs.length c1 m (kh := .i64) (H := (m : Int)) rfl (by omega) w
    clear hm
    rcases H with ⟨hle, rfl⟩ | ⟨hle, rfl⟩
    case' inl => have hle' : (xs.length : Int) ≤ 10 := by omega
    case' inr => have hle' : decide ((xs.length : Int) ≤ 10) = false := by simp; omega
    all_goals (
      by_cases h10 : 10 ≤ Octet.lead xs
      · have hlen : (10 : Int) ≤ (xs.length : Int) := by omega
        obtain rfl : v = -1 := by rw [hv, if_neg (by omega)]
        have hr : Octet.err xs = 3 := by unfold Octet.err; rw [if_pos h10]
        rw [hr, if_neg (by decide)]
        clear hv hr
        go_enter Try.func34, Try.ntmps34
        go_wp2_with fail
        refine C.out.mono ?_
        rintro e w9 ⟨rfl, nq, rfl⟩
        go_wp2
        go_ret2
        exact ⟨rfl, nq, rfl⟩
      by_cases hfull : Octet.lead xs = xs.length
      · have hlen : decide ((10 : Int) ≤ (xs.length : Int)) = false := by simp; omega
        obtain rfl : v = -1 := by rw [hv, if_neg (by omega)]
        have hr : Octet.err xs = 4 := by unfold Octet.err; rw [if_neg h10, if_pos hfull]
        rw [hr, if_neg (by decide)]
        clear hv hr
        go_enter Try.func34, Try.ntmps34
        go_wp2_with fail
        refine C.out.mono ?_
        rintro e w9 ⟨rfl, nq, rfl⟩
        go_wp2
        go_ret2
        exact ⟨rfl, nq, rfl⟩
      obtain ⟨k, hk⟩ : ∃ k, k = Octet.lead xs := ⟨_, rfl⟩
      rw [← hk] at h10 hfull hl hv
      obtain rfl : v = (k : Int) := by rw [hv, if_pos (by omega), show min k _ = k by omega]
      obtain ⟨b, off, x, rfl, cx, hxx⟩ := h1.at k (by omega)
      have hrx := hx x (by rw [hxx.out, List.getD_eq_getElem?_getD, List.getElem?_eq_getElem (by omega)]; exact List.getElem_mem (by omega))
      have he : Octet.err xs = if (k = 9 ∧ 1 < x) ∨ (0 < k ∧ x = 0) then 3 else 0 := by
        unfold Octet.err
        rw [← hk, if_neg h10, if_neg hfull, hxx.out]
        by_cases h9 : k = 9
        · rw [h9]
        · simp [h9]
      generalize Octet.err xs = er at he ⊢
      rw [← hk]
      have hkl : k < xs.length := by omega
      clear hv hk hfull h10 hl hx
      by_cases h9 : k = 9
      · subst h9
        have cx' : w.cell? ⟨b, off + 9, none⟩ = some (.int .u8 x) := cx
        by_cases hb1 : 1 < x
        · rw [if_pos (.inl ⟨rfl, hb1⟩)] at he
          subst he
          rw [if_neg (by decide)]
          go_enter Try.func34, Try.ntmps34
          go_wp2_with fail
          refine C.out.mono ?_
          rintro e w9 ⟨rfl, nq, rfl⟩
          go_wp2
          go_ret2
          exact ⟨rfl, nq, rfl⟩
        have hb1' : decide (1 < x) = false := by simp; omega
        by_cases hb0 : x = 0
        · subst hb0
          rw [if_pos (.inr ⟨by omega, rfl⟩)] at he
          subst he
          rw [if_neg (by decide)]
          go_enter Try.func34, Try.ntmps34
          go_wp2_with fail
          refine C.out.mono ?_
          rintro e w9 ⟨rfl, nq, rfl⟩
          go_wp2
          go_ret2
          exact ⟨rfl, nq, rfl⟩
        have hb0' : (x == 0) = false := by simpa using hb0
        rw [if_neg (by omega)] at he
        subst he
        rw [if_pos rfl]
        go_enter Try.func34, Try.ntmps34
        go_wp2_with fail
        refine C.out.mono ?_
        rintro e w9 ⟨rfl, nq, rfl⟩
        go_wp2
        go_ret2
        exact ⟨rfl, nq, rfl⟩
      have h9' : ((k : Int) == 9) = false := by simp; omega
      by_cases h0 : k = 0
      · subst h0
        rw [if_neg (by omega)] at he
        subst he
        rw [if_pos rfl]
        go_enter Try.func34, Try.ntmps34
        go_wp2_with fail
        refine C.out.mono ?_
        rintro e w9 ⟨rfl, nq, rfl⟩
        go_wp2
        go_ret2
        exact ⟨rfl, nq, rfl⟩
      have h0' : (0 : Int) < (k : Int) := by omega
      by_cases hb0 : x = 0
      · subst hb0
        rw [if_pos (.inr ⟨by omega, rfl⟩)] at he
        subst he
        rw [if_neg (by decide)]
        go_enter Try.func34, Try.ntmps34
        go_wp2_with fail
        refine C.out.mono ?_
        rintro e w9 ⟨rfl, nq, rfl⟩
        go_wp2
        go_ret2
        exact ⟨rfl, nq, rfl⟩
      have hb0' : (x == 0) = false := by simpa using hb0
      rw [if_neg (by omega)] at he
      subst he
      rw [if_pos rfl]
      go_enter Try.func34, Try.ntmps34
      go_wp2_with fail
      refine C.out.mono ?_
      rintro e w9 ⟨rfl, nq, rfl⟩
      go_wp2
      go_ret2
      exact ⟨rfl, nq, rfl⟩)
  exact key (by omega)
end Go.Proofs.Ytpnkfhfaoomdpaa
