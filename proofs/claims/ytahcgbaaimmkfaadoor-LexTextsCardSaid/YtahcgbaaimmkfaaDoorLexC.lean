/- Two lists of tokens are held against one another but for their places. Conditions: not too many. -/
import Derived.Test.YtahcgbaaimmkfaaDoorLexX
namespace Go.Proofs.YtahcgbaaimmkfaaDoor
open Go.RowKit
set_option linter.unusedVariables false

set_option maxRecDepth 8000 in
set_option maxHeartbeats 8000000 in
theorem same_any (w : World) (a1 a2 : Option Addr) (c1 c2 : Nat) (T U : List Tk) (hT : TokAt w a1 T) (hU : TokAt w a2 U) (hs : T.map strip = U.map strip) (hl : T.length ≤ 6000) :
    Calls Tryd.prog 12 #[.slice a1 T.length c1, .slice a2 U.length c2, .bool false] w fun e w' => e = .returned (.bool true) ∧ Quiet w w' := by
  have hlen : U.length = T.length := by have := congrArg List.length hs; simpa using this.symm
  rw [hlen]
  obtain ⟨n, hn⟩ : ∃ n, n = T.length := ⟨_, rfl⟩
  rw [← hn]
  have hnI : (n : Int) ≤ 6000 := by omega
  have hz : ((n : Int) != (n : Int)) = false := by simp
  have AT : Hid (∀ i, i < n → ∃ (x : Tk) (a' : Nat), w.rangeAt 0 0 [] ∧ (∃ b o, a1 = some ⟨b, o, none⟩ ∧ w.rangeAt b (o + i * 4) (tkV x.kind x.n x.at_ ⟨x.text.toArray⟩)) ∧ ∃ b o, a2 = some ⟨b, o, none⟩ ∧ w.rangeAt b (o + i * 4) (tkV x.kind x.n a' ⟨x.text.toArray⟩)) := fun i hi => by
    have hiT : i < T.length := by omega
    have hiU : i < U.length := by omega
    obtain ⟨b, o, e1, _, h1⟩ := hT (by omega)
    obtain ⟨b2, o2, e2, _, h2⟩ := hU (by omega)
    have h3 : strip T[i] = strip U[i] := by
      have := congrArg (fun l => l[i]?) hs
      simpa [hiT, hiU] using this
    have h4 := h2 i hiU
    simp only [strip, Prod.mk.injEq] at h3
    rw [← h3.1, ← h3.2.1, ← h3.2.2] at h4
    exact ⟨T[i], U[i].at_, fun j v hj => by simp at hj, ⟨b, o, e1, h1 i hiT⟩, b2, o2, e2, h4⟩
  clear hT hU hs hl hlen hn
  go_enter Tryd.func12, Tryd.ntmps12
  go_wp2
  go_loopw [6, 7] (fun b i wr => ∃ k m : Nat, b = .bool false ∧ k ≤ n ∧ i = .int .i64 (k : Int) ∧ wr = w.drewN m) (fun _ i _ => n - (intOf i).toNat)
  case atStart => exact ⟨0, 0, rfl, Nat.zero_le _, rfl, rfl⟩
  case round =>
    obtain ⟨k, m, rfl, hk, rfl, rfl⟩ := hrel
    by_cases hlt : k < n
    · have hk2 : (k : Int) < (n : Int) := by omega
      obtain ⟨x, a', _, ⟨b, o, rfl, R1⟩, b2, o2, rfl, R2⟩ := AT.out k hlt
      obtain ⟨xk, xn, xa, xt⟩ := x
      dsimp only at R1 R2
      have f0 : w.cell? ⟨b, o + k * 4, none⟩ = some (.int .i64 (xk : Int)) := R1 0 _ rfl
      have f1 : w.cell? ⟨b, o + k * 4 + 1, none⟩ = some (.int .i64 xn) := R1 1 _ rfl
      have f3 : w.cell? ⟨b, o + k * 4 + 3, none⟩ = some (.string ⟨xt.toArray⟩) := R1 3 _ rfl
      have e0 : w.cell? ⟨b2, o2 + k * 4, none⟩ = some (.int .i64 (xk : Int)) := R2 0 _ rfl
      have e1 : w.cell? ⟨b2, o2 + k * 4 + 1, none⟩ = some (.int .i64 xn) := R2 1 _ rfl
      have e3 : w.cell? ⟨b2, o2 + k * 4 + 3, none⟩ = some (.string ⟨xt.toArray⟩) := R2 3 _ rfl
      generalize (⟨xt.toArray⟩ : ByteArray) = s at f3 e3
      clear R1 R2 AT
      go_wp2
      go_quiet (fail)
      go_wp2
      go_roundw
      case rel => exact ⟨k + 1, _, rfl, by omega, by go_num, by first | rfl | exact World.drewN_drewN _ _ _⟩
      case measure => simp [intOf]; omega
    · obtain rfl : k = n := by omega
      go_wp2
      go_ret
      exact ⟨rfl, Quiet.one _ _⟩
end Go.Proofs.YtahcgbaaimmkfaaDoor
