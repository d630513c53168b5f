/- What a product's pairs are to a search: few. No conditions. -/
import Derived.Test.YtfcpfcgcfaacnaaNdSearch
import Derived.Test.YtfcpfcgcfaacnaaPrWholeP
import Derived.Test.YtfcpfcgcfaacnaaPrLawIn
namespace Go.Proofs.Ytfcpfcgcfaacnaa
open Go.RowKit

theorem nodup_natN : ∀ (n : Nat) (l : List Nat), l.Nodup → (∀ x ∈ l, x < n) → l.length ≤ n
  | 0, l, _, h => by
    cases l with
    | nil => exact Nat.le_refl _
    | cons x l => have := h x (.head _); omega
  | n + 1, l, hn, h => by
    have h1 := nodup_natN n (l.erase n) (hn.erase n) (fun x hx => by
      have h2 := (List.Nodup.mem_erase_iff hn).1 hx
      have := h x h2.2
      have := h2.1
      omega)
    by_cases hm : n ∈ l
    · rw [List.length_erase_of_mem hm] at h1; omega
    · rw [List.erase_of_not_mem hm] at h1; omega
theorem map_nodup {α β : Type} {f : α → β} : ∀ {l : List α}, l.Nodup → (∀ x ∈ l, ∀ y ∈ l, f x = f y → x = y) → (l.map f).Nodup
  | [], _, _ => List.nodup_nil
  | a :: l, h, hi => by
    rw [List.nodup_cons] at h
    rw [List.map_cons, List.nodup_cons]
    refine ⟨fun hm => ?_, map_nodup h.2 (fun x hx y hy => hi x (.tail _ hx) y (.tail _ hy))⟩
    obtain ⟨b, hb, e⟩ := List.mem_map.1 hm
    have := hi b (.tail _ hb) a (.head _) e
    subst this
    exact h.1 hb
/-- a pair as a number -/
def numPP (x : PP) : Nat := (x.node.toNat * 8 + x.state.toNat) * 32 + x.turn.toNat
theorem nice_of {G : GR} {sets : List (List Bool)} {A : AU} (lt : Lt G sets A) (hn : newB G sets A = true) : Nice (nextP G sets A) (vPP G sets A) 3072 := by
  obtain ⟨hs, hc⟩ : srcB G sets = true ∧ chk A = 0 := by
    unfold newB at hn
    rw [Bool.and_eq_true] at hn
    exact ⟨hn.1, of_decide_eq_true hn.2⟩
  obtain ⟨hg, h16, _⟩ := src_sets hs
  obtain ⟨c0, c16, _⟩ := chk_sets hc
  have h32 : max (allS sets A) 1 ≤ 32 := by unfold allS; omega
  have he := lt.e
  have hna := lt.n
  refine ⟨nextP_len lt, next_valid hg hc, fun l hl hp => ?_⟩
  have h1 := map_nodup (f := numPP) hl (fun x hx y hy e => by
    obtain ⟨⟨a1, a2⟩, ⟨a3, a4⟩, a5, a6⟩ := hp x hx
    obtain ⟨⟨b1, b2⟩, ⟨b3, b4⟩, b5, b6⟩ := hp y hy
    obtain ⟨xn, xs, xt⟩ := x
    obtain ⟨yn, ys, yt⟩ := y
    simp only [numPP] at e a1 a2 a3 a4 a5 a6 b1 b2 b3 b4 b5 b6
    have q1 : xn = yn := by omega
    have q2 : xs = ys := by omega
    have q3 : xt = yt := by omega
    rw [q1, q2, q3])
  have h2 := nodup_natN 3072 _ h1 (fun k hk => by
    obtain ⟨x, hx, rfl⟩ := List.mem_map.1 hk
    obtain ⟨⟨a1, a2⟩, ⟨a3, a4⟩, a5, a6⟩ := hp x hx
    unfold numPP
    omega)
  rw [List.length_map] at h2
  exact h2
/-- the search of what New made -/
theorem search_made (W0 : World) (p : Nat) (G : GR) (sets : List (List Bool)) (A : AU) (hP : PrAt W0 p G sets A) (lt : Lt G sets A) (hn : newB G sets A = true) (bn bd : Int) :
    Calls Try.prog 14 #[.pointer (some ⟨p, 0, none⟩), .agg #[.int .i64 bn, .int .i64 bd]] W0 fun e w' => ∃ v, e = .returned v ∧ Below W0.heap.size W0 w' ∧ FoundNew W0.heap.size w' v (searchP G sets A bn bd) := by
  obtain ⟨hs, hc⟩ : srcB G sets = true ∧ chk A = 0 := by
    unfold newB at hn
    rw [Bool.and_eq_true] at hn
    exact ⟨hn.1, of_decide_eq_true hn.2⟩
  obtain ⟨hg, h16, _⟩ := src_sets hs
  exact search_any W0 p G sets A hP lt 3072 (nice_of lt hn) (by decide) (fun y hy => okPP_of lt hc h16 hy) (first_valid hg hc) (firstP_len lt) bn bd
end Go.Proofs.Ytfcpfcgcfaacnaa
