/- Decimals and what is read of them, plain. No conditions. -/
import Derived.Lib.AtoiAll
import Derived.Lib.ItoaNum
namespace Go.Proofs.YtjacphcnanopjaaDoor
open Go.Lib

theorem pU_append : ∀ (l : List UInt8) (acc a : Nat) (r : List UInt8), parseUint10 acc l = .ok a → parseUint10 acc (l ++ r) = parseUint10 a r
  | [], acc, a, r, h => by
    simp only [parseUint10] at h
    injection h with h
    rw [h, List.nil_append]
  | c :: l, acc, a, r, h => by
    simp only [parseUint10, List.cons_append] at h ⊢
    split at h
    · rename_i h1
      rw [if_pos h1]
      split at h
      · cases h
      · rename_i h2
        rw [if_neg h2]
        split at h
        · cases h
        · rename_i h3
          rw [if_neg h3]
          exact pU_append l _ a r h
    · cases h
theorem dig_byte {d : Nat} (h : d < 10) : (UInt8.ofNat (48 + d)).toNat = 48 + d := by
  rw [UInt8.toNat_ofNat']
  omega
theorem pU_dec (u : Nat) (hu : u < 18446744073709551616) : parseUint10 0 (decDigits u) = .ok u := by
  induction u using Nat.strongRecOn with
  | _ u ih =>
    by_cases h : u < 10
    · rw [decDigits, dif_pos h]
      simp only [parseUint10, dig_byte h]
      rw [if_pos (by omega), if_neg (by omega), if_neg (by omega)]
      congr 1
      omega
    · rw [decDigits, dif_neg h, pU_append _ _ _ _ (ih (u / 10) (by omega) (by omega))]
      have hd : u % 10 < 10 := Nat.mod_lt _ (by decide)
      simp only [parseUint10, dig_byte hd]
      rw [if_pos (by omega), if_neg (by omega), if_neg (by omega)]
      congr 1
      omega
theorem dec_ne (u : Nat) : decDigits u ≠ [] := by
  intro h
  have := congrArg List.length h
  rw [decDigits_length] at this
  have := nDigits_pos u
  simp at *
  omega
theorem dec_digit (u : Nat) : ∀ c ∈ decDigits u, 48 ≤ c.toNat ∧ c.toNat ≤ 57 := by
  induction u using Nat.strongRecOn with
  | _ u ih =>
    intro c hc
    by_cases h : u < 10
    · rw [decDigits, dif_pos h, List.mem_singleton] at hc
      rw [hc, dig_byte h]
      omega
    · rw [decDigits, dif_neg h, List.mem_append, List.mem_singleton] at hc
      rcases hc with hc | hc
      · exact ih (u / 10) (by omega) c hc
      · have hd : u % 10 < 10 := Nat.mod_lt _ (by decide)
        rw [hc, dig_byte hd]
        omega
/-- what is read of a decimal is the number -/
theorem atoi_itoa (n : Int) (h0 : -9223372036854775808 ≤ n) (h1 : n ≤ 9223372036854775807) : atoiAll (itoa n) = .ok n := by
  by_cases hn : n < 0
  · unfold itoa
    rw [if_pos hn]
    simp only [atoiAll]
    rw [if_pos (by decide)]
    unfold parseMag
    rw [if_neg (dec_ne _), pU_dec n.natAbs (by omega)]
    simp only
    rw [if_neg (fun h => h.1 (by decide)), if_neg (fun h => by have := h.2; omega), if_pos (by decide)]
    congr 1
    omega
  · unfold itoa
    rw [if_neg hn]
    have hd := dec_digit n.toNat
    have hp := pU_dec n.toNat (by omega)
    have hne := dec_ne n.toNat
    generalize decDigits n.toNat = l at hd hp hne
    cases l with
    | nil => exact absurd rfl hne
    | cons c r =>
      have hc := hd c (List.mem_cons_self ..)
      simp only [atoiAll]
      rw [if_neg (by omega)]
      unfold parseMag
      rw [if_neg hne, hp]
      simp only
      have h45 : ¬ c.toNat = 45 := by omega
      simp only [h45, not_false_eq_true, true_and, false_and, if_false]
      rw [if_neg (by omega)]
      congr 1
      omega
theorem itoa_inj {n m : Int} (h0 : -9223372036854775808 ≤ n) (h1 : n ≤ 9223372036854775807) (g0 : -9223372036854775808 ≤ m) (g1 : m ≤ 9223372036854775807) (h : itoa n = itoa m) : n = m := by
  have a := atoi_itoa n h0 h1
  rw [h, atoi_itoa m g0 g1] at a
  injection a with a
  exact a.symm
/-- the number of a text, or none -/
def within6 (v : Int) : Bool := decide (-1048576 ≤ v ∧ v ≤ 1048576)
def numP (l : List UInt8) : Int × Bool := match atoiAll l with
  | .ok v => if within6 v = true ∧ itoa v = l then (v, true) else (0, false)
  | _ => (0, false)
/-- the document's reading: at most eight digits, wherever they stand -/
def scanP : List UInt8 → Nat × Nat → Nat × Nat
  | [], x => x
  | c :: r, (n, d) => scanP r (if 48 ≤ c.toNat ∧ c.toNat ≤ 57 ∧ d < 8 then (n * 10 + (c.toNat - 48), d + 1) else (n, d))
def signP (l : List UInt8) (n : Nat) : Int := if l.head? = some 45 then -(n : Int) else n
def rnumP (l : List UInt8) : Int × Bool :=
  if (scanP l (0, 0)).2 ≤ 7 ∧ within6 (signP l (scanP l (0, 0)).1) = true ∧ itoa (signP l (scanP l (0, 0)).1) = l then (signP l (scanP l (0, 0)).1, true) else (0, false)
theorem scan_append : ∀ (l r : List UInt8) (x : Nat × Nat), scanP (l ++ r) x = scanP r (scanP l x)
  | [], r, x => rfl
  | c :: l, r, (n, d) => by
    rw [List.cons_append, scanP, scanP]
    exact scan_append l r _
theorem nDig_mono (u : Nat) (k : Nat) (h : u < 10 ^ (k + 1)) : nDigits u ≤ k + 1 := by
  induction k generalizing u with
  | zero => rw [nDigits_small (by simpa using h)]; exact Nat.le_refl _
  | succ k ih =>
    by_cases h1 : u < 10
    · rw [nDigits_small h1]; omega
    · rw [nDigits_big h1]
      have := ih (u / 10) (by rw [Nat.pow_succ] at h; omega)
      omega
theorem scan_dec (u : Nat) (h : nDigits u ≤ 8) : scanP (decDigits u) (0, 0) = (u, nDigits u) := by
  induction u using Nat.strongRecOn with
  | _ u ih =>
    by_cases h1 : u < 10
    · rw [decDigits, dif_pos h1, nDigits_small h1]
      simp only [scanP, dig_byte h1]
      rw [if_pos (by omega)]
      simp
    · rw [decDigits, dif_neg h1, scan_append]
      rw [nDigits_big h1] at h ⊢
      rw [ih (u / 10) (by omega) (by omega)]
      have hd : u % 10 < 10 := Nat.mod_lt _ (by decide)
      simp only [scanP, dig_byte hd]
      rw [if_pos (by omega)]
      congr 1
      omega
theorem dec_head (u : Nat) : (decDigits u).head? ≠ some 45 := by
  intro h
  have hm : (45 : UInt8) ∈ decDigits u := List.mem_of_mem_head? (by rw [h]; rfl)
  have := dec_digit u _ hm
  simp at this
theorem rnum_itoa (v : Int) (h : within6 v = true) : (scanP (itoa v) (0, 0)).2 ≤ 7 ∧ signP (itoa v) (scanP (itoa v) (0, 0)).1 = v := by
  have hb : -1048576 ≤ v ∧ v ≤ 1048576 := of_decide_eq_true h
  by_cases hn : v < 0
  · unfold itoa
    rw [if_pos hn]
    have hk := nDig_mono v.natAbs 6 (by omega)
    have e : scanP (45 :: decDigits v.natAbs) (0, 0) = (v.natAbs, nDigits v.natAbs) := by
      rw [scanP]
      simp only [show (45 : UInt8).toNat = 45 from rfl]
      rw [if_neg (by omega)]
      exact scan_dec _ (by omega)
    rw [e]
    refine ⟨hk, ?_⟩
    unfold signP
    simp only [List.head?_cons, if_true]
    omega
  · unfold itoa
    rw [if_neg hn]
    have hk := nDig_mono v.toNat 6 (by omega)
    rw [scan_dec _ (by omega)]
    refine ⟨hk, ?_⟩
    unfold signP
    rw [if_neg (dec_head _)]
    show ((v.toNat : Nat) : Int) = v
    omega
theorem numP_itoa (v : Int) (h : within6 v = true) : numP (itoa v) = (v, true) := by
  have hb : -1048576 ≤ v ∧ v ≤ 1048576 := of_decide_eq_true h
  unfold numP
  rw [atoi_itoa v (by omega) (by omega)]
  simp only
  rw [if_pos ⟨h, trivial⟩]
theorem rnumP_itoa (v : Int) (h : within6 v = true) : rnumP (itoa v) = (v, true) := by
  obtain ⟨h1, h2⟩ := rnum_itoa v h
  unfold rnumP
  rw [h2]
  rw [if_pos ⟨h1, h, rfl⟩]
theorem numP_true {l : List UInt8} (h : (numP l).2 = true) : within6 (numP l).1 = true ∧ itoa (numP l).1 = l := by
  unfold numP at h ⊢
  cases ha : atoiAll l with
  | ok v =>
    rw [ha] at h
    simp only at h ⊢
    split at h
    · rename_i hh; rw [if_pos hh]; exact hh
    · cases h
  | «syntax» => rw [ha] at h; cases h
  | range => rw [ha] at h; cases h
theorem rnumP_true {l : List UInt8} (h : (rnumP l).2 = true) : within6 (rnumP l).1 = true ∧ itoa (rnumP l).1 = l := by
  unfold rnumP at h ⊢
  split at h
  · rename_i hh; rw [if_pos hh]; exact hh.2
  · cases h
theorem numP_false {l : List UInt8} (h : (numP l).2 = false) : numP l = (0, false) := by
  unfold numP at h ⊢
  cases ha : atoiAll l with
  | ok v =>
    rw [ha] at h
    simp only at h ⊢
    split at h
    · cases h
    · rename_i hh; rw [if_neg hh]
  | «syntax» => rfl
  | range => rfl
theorem rnumP_false {l : List UInt8} (h : (rnumP l).2 = false) : rnumP l = (0, false) := by
  unfold rnumP at h ⊢
  split at h
  · cases h
  · rename_i hh; rw [if_neg hh]
/-- both readings give the same -/
theorem num_same (l : List UInt8) : numP l = rnumP l := by
  cases h1 : (numP l).2 with
  | true =>
    obtain ⟨a, b⟩ := numP_true h1
    have h2 := rnumP_itoa _ a
    rw [b] at h2
    rw [h2, ← h1]
  | false =>
    cases h2 : (rnumP l).2 with
    | true =>
      obtain ⟨a, b⟩ := rnumP_true h2
      have h3 := numP_itoa _ a
      rw [b] at h3
      rw [h3] at h1
      cases h1
    | false => rw [numP_false h1, rnumP_false h2]
/-- of a number's decimal the number is read, if it is small enough -/
theorem num_back (n : Int) (h0 : -9223372036854775808 ≤ n) (h1 : n ≤ 9223372036854775807) : (numP (itoa n)).2 = within6 n ∧ (within6 n = true → (numP (itoa n)).1 = n) := by
  cases hw : within6 n with
  | true => rw [numP_itoa n hw]; exact ⟨rfl, fun _ => rfl⟩
  | false =>
    refine ⟨?_, fun h => by cases h⟩
    unfold numP
    rw [atoi_itoa n h0 h1]
    simp only
    rw [if_neg (fun h => by rw [hw] at h; cases h.1)]
end Go.Proofs.YtjacphcnanopjaaDoor
