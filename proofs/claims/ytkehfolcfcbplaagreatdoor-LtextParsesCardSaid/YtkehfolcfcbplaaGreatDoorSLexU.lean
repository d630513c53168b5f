/- Runes of bytes, plain: a rune of more than one byte holds no small byte. No conditions. -/
import Derived.Test.YtkehfolcfcbplaaGreatDoorSLexP
import Derived.Laws.RangeAny
import Derived.Lib.RuneCount
namespace Go.Proofs.YtkehfolcfcbplaaGreatDoor
open Go.Lib
theorem decode_wide (s : ByteArray) (pos : Nat) (h : pos < s.size) (ha : 128 ≤ (s.get! pos).toNat) : ∀ j, pos ≤ j → j < pos + (Utf8.decode s pos).2 → j < s.size ∧ 128 ≤ (s.get! j).toNat := by
 intro j h1 h2
 obtain ⟨k, rfl⟩ : ∃ k, j = pos + k := ⟨j - pos, by omega⟩
 have h2 : k < (Utf8.decode s pos).2 := by omega
 unfold Utf8.decode at h2
 simp only at h2
 have h0 : pos + 0 < s.size ∧ 128 ≤ (s.get! (pos + 0)).toNat := ⟨h, ha⟩
 have hc : ∀ k, (decide (pos + k < s.size) && (s.get! (pos + k)).toNat / 64 == 2) = true → pos + k < s.size ∧ 128 ≤ (s.get! (pos + k)).toNat := fun k hk => by
  rw [Bool.and_eq_true] at hk
  have h3 := of_decide_eq_true hk.1
  have h4 : (s.get! (pos + k)).toNat / 64 = 2 := by simpa using hk.2
  exact ⟨h3, by omega⟩
 split at h2
 ·obtain rfl : k = 0 := by simpa using h2
  exact h0
 ·split at h2
  ·rename_i h5
   rw [Bool.and_eq_true] at h5
   have c1 := hc 1 h5.2
   split at h2
   ·have : k = 0 ∨ k = 1 := by simp only at h2; omega
    rcases this with rfl | rfl
    ·exact h0
    ·exact c1
   ·obtain rfl : k = 0 := by simpa using h2
    exact h0
  ·split at h2
   ·rename_i h5
    rw [Bool.and_eq_true, Bool.and_eq_true] at h5
    have c1 := hc 1 h5.1.2
    have c2 := hc 2 h5.2
    split at h2
    ·have : k = 0 ∨ k = 1 ∨ k = 2 := by simp only at h2; omega
     rcases this with rfl | rfl | rfl
     ·exact h0
     ·exact c1
     ·exact c2
    ·obtain rfl : k = 0 := by simpa using h2
     exact h0
   ·split at h2
    ·rename_i h5
     rw [Bool.and_eq_true, Bool.and_eq_true, Bool.and_eq_true] at h5
     have c1 := hc 1 h5.1.1.2
     have c2 := hc 2 h5.1.2
     have c3 := hc 3 h5.2
     split at h2
     ·have : k = 0 ∨ k = 1 ∨ k = 2 ∨ k = 3 := by simp only at h2; omega
      rcases this with rfl | rfl | rfl | rfl
      ·exact h0
      ·exact c1
      ·exact c2
      ·exact c3
     ·obtain rfl : k = 0 := by simpa using h2
      exact h0
    ·obtain rfl : k = 0 := by simpa using h2
     exact h0
end Go.Proofs.YtkehfolcfcbplaaGreatDoor
