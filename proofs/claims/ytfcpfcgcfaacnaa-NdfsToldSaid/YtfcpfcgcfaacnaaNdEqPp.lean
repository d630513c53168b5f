/- Two slices of the same pairs are held against one another by the library's Equal. Conditions: few. -/
import Derived.Test.YtfcpfcgcfaacnaaNdSearchN
import Derived.Test.YtfcpfcgcfaacnaaNdBudP
import Derived.Test.YtfcpfcgcfaacnaaNdSrc
namespace Go.Proofs.Ytfcpfcgcfaacnaa
open Go.RowKit

set_option maxHeartbeats 2000000 in
theorem eq_pps (w : World) (a1 a2 : Option Addr) (c1 c2 : Nat) (l : List PP) (h1 : PpsAt w a1 l) (h2 : PpsAt w a2 l) (hl : l.length ≤ 1000000) :
    Calls Try.prog 29 #[.slice a1 l.length c1, .slice a2 l.length c2] w fun e w' => e = .returned (.bool true) ∧ Quiet w w' := by
  have hz : ((l.length : Int) != (l.length : Int)) = false := by simp
  replace h1 := Lib.hid h1
  replace h2 := Lib.hid h2
  go_enter Try.func29, Try.ntmps29
  go_wp2
  go_loopw [4, 13] (fun b i wr => ∃ k n : Nat, b = .bool false ∧ k ≤ l.length ∧ i = .int .i64 k ∧ wr = w.drewN n) (fun _ i _ => l.length - (intOf i).toNat)
  case atStart => exact ⟨0, 0, rfl, Nat.zero_le _, rfl, rfl⟩
  case round =>
    obtain ⟨k, n, rfl, hk, rfl, rfl⟩ := hrel
    by_cases hlt : k < l.length
    · have hk2 : (k : Int) < (l.length : Int) := by omega
      obtain ⟨g, o, rfl, _, f0, f1, f2⟩ := h1.out.at k hlt
      obtain ⟨g', o', rfl, _, e0, e1, e2⟩ := h2.out.at k hlt
      generalize l[k] = x at f0 f1 f2 e0 e1 e2
      obtain ⟨xn, xs, xt⟩ := x
      simp only at f0 f1 f2 e0 e1 e2
      go_wp2
      go_quiet (fail)
      go_wp2
      go_roundw
      case rel => exact ⟨k + 1, _, rfl, by omega, by go_num, by first | rfl | exact World.drewN_drewN _ _ _⟩
      case measure => simp [intOf]; omega
    · obtain rfl : k = l.length := by omega
      go_wp2
      go_ret
      exact ⟨rfl, Quiet.one _ _⟩

/-! the same with what was counted, plain -/
theorem held_id {n : Nat} (h : n ≤ 3072) : heldP (n : Int) = n := by unfold heldP; omega
theorem res_fits {G : GR} {sets : List (List Bool)} {A : AU} (lt : Lt G sets A) (bn bd cn cd : Int) (hf : Fits ⟨heldP cn, heldP cd⟩ (resP G sets A bn bd).nodes (resP G sets A bn bd).depth (resP G sets A bn bd).why) : resP G sets A cn cd = resP G sets A bn bd := by
  unfold resP at hf ⊢
  by_cases hn : newB G sets A = true
  · rw [if_pos hn] at hf
    rw [if_pos hn, if_pos hn]
    exact searchF_bud (nice_of lt hn) (by decide) _ _ (first_ok hn) (NInv.start _ _ _) rfl hf
  · rw [if_neg hn, if_neg hn]
theorem res_same {G : GR} {sets : List (List Bool)} {A : AU} (lt : Lt G sets A) (bn bd : Int) : resP G sets A ((resP G sets A bn bd).nodes : Int) ((resP G sets A bn bd).depth : Int) = resP G sets A bn bd := by
  have U := used_ok lt bn bd
  have h1 := U.few
  have h2 := U.dn
  have e1 := held_id h1
  have e2 := held_id (n := (resP G sets A bn bd).depth) (by omega)
  exact res_fits lt bn bd _ _ ⟨Nat.le_of_eq e1.symm, Nat.le_of_eq e2.symm, fun _ => Nat.le_of_eq e1, fun _ => Nat.le_of_eq e2⟩
theorem res_more {G : GR} {sets : List (List Bool)} {A : AU} (lt : Lt G sets A) (bn bd : Int) (m1 m2 : Nat) (hk : (resP G sets A bn bd).kind ≠ 3) : resP G sets A (((resP G sets A bn bd).nodes : Int) + m1) (((resP G sets A bn bd).depth : Int) + m2) = resP G sets A bn bd := by
  have U := used_ok lt bn bd
  have h1 := U.few
  have h2 := U.dn
  have h3 := U.why hk
  refine res_fits lt bn bd _ _ ⟨?_, ?_, fun h => ?_, fun h => ?_⟩
  · dsimp only; unfold heldP; omega
  · dsimp only; unfold heldP; omega
  · rw [h3] at h; cases h
  · rw [h3] at h; cases h
/-- what is told is no longer than what was counted -/
theorem res_len {G : GR} {sets : List (List Bool)} {A : AU} (lt : Lt G sets A) (bn bd : Int) : (resP G sets A bn bd).stem.length + (resP G sets A bn bd).loop.length ≤ 4000 := by
  unfold resP
  by_cases hn : newB G sets A = true
  · rw [if_pos hn]
    have N := nice_of lt hn
    rcases search_told (b := ⟨heldP bn, heldP bd⟩) (inq := inP G sets A) N (by decide) (first_ok hn) with h | h
    · obtain ⟨R, r1, r2, r3⟩ := h.few
      have hf := N.few R r1 r2
      have h3 := h.dn
      have h4 := h.ln
      change (searchP G sets A bn bd).depth ≤ (searchP G sets A bn bd).nodes at h3
      change (searchP G sets A bn bd).nodes = R.length at r3
      change (searchP G sets A bn bd).stem.length + (searchP G sets A bn bd).loop.length ≤ (searchP G sets A bn bd).depth + 1 at h4
      omega
    · obtain ⟨_, _, h1, h2⟩ := h.kind
      change (searchP G sets A bn bd).stem = [] at h1
      change (searchP G sets A bn bd).loop = [] at h2
      rw [h1, h2]
      decide
  · rw [if_neg hn]
    decide
theorem len_ok {G : GR} {sets : List (List Bool)} {A : AU} (lt : Lt G sets A) (bn bd : Int) {k y n e d : Nat} {s l : List PP} (hf : (⟨k, y, n, e, d, s, l⟩ : NF) = resP G sets A bn bd) : s.length ≤ 1000000 ∧ l.length ≤ 1000000 := by
  have h := res_len lt bn bd
  rw [← hf] at h
  change s.length + l.length ≤ 4000 at h
  omega
end Go.Proofs.Ytfcpfcgcfaacnaa
