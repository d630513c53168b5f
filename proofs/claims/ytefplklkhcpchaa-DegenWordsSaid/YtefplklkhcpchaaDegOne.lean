/- The automaton of one set that the code makes. Conditions: the bounds that an argument brings along. -/
import Derived.Test.YtefplklkhcpchaaDegNode
namespace Go.Proofs.Ytefplklkhcpchaa
open Go.RowKit

/-- nodes that a call owns, in a row: their lists lie in blocks of a kind -/
def NodesC (w : World) (a : Option Addr) (xs : List AN) (C : Nat → Prop) : Prop :=
  ∀ i (hi : i < xs.length), ∃ b at_ c, a = some ⟨b, 0, none⟩ ∧ C b ∧
    w.cell? ⟨b, i * 4, none⟩ = some (.int .u64 xs[i].need) ∧ w.cell? ⟨b, i * 4 + 1, none⟩ = some (.int .u64 xs[i].ban) ∧ w.cell? ⟨b, i * 4 + 2, none⟩ = some (.int .u64 xs[i].inn) ∧
    w.cell? ⟨b, i * 4 + 3, none⟩ = some (.slice at_ xs[i].to.length c) ∧ NumsAt .i64 w at_ xs[i].to ∧ (∀ ad : Addr, at_ = some ad → C ad.block)

/-- in the list of pairs each is a node's, with a turn -/
def goodP (n s : Nat) (p : PR) : Prop := ∃ i t : Nat, p = ((i : Int), (t : Int)) ∧ i < n ∧ t < max s 1
theorem good_num {n s : Nat} {l : List PR} (h : ∀ p ∈ l, goodP n s p) {p : PR} (hp : goodP n s p) : ∀ x ∈ (numP l p).1, goodP n s x := by
  intro x hx
  obtain ⟨r, hr, hr2⟩ := numP_pre l p
  rw [hr] at hx
  rcases List.mem_append.1 hx with h1 | h1
  · exact h x h1
  · rw [hr2 x h1]; exact hp
theorem good_row {n s : Nat} {t : Int} : ∀ (xs : List Int) (st : List PR × List Int), (∀ p ∈ st.1, goodP n s p) → (∀ q ∈ xs, goodP n s (q, t)) → ∀ p ∈ (rowP t xs st).1, goodP n s p
  | [], st, h, _ => h
  | q :: xs, st, h, hq => good_row xs (rowStep t st q) (good_num h (hq q (by simp))) (fun x hx => hq x (by simp [hx]))
theorem row_len (t : Int) : ∀ (xs : List Int) (st : List PR × List Int), (rowP t xs st).1.length ≤ st.1.length + xs.length ∧ st.1.length ≤ (rowP t xs st).1.length
  | [], st => ⟨by simp [rowP], by simp [rowP]⟩
  | q :: xs, st => by
    have h1 := row_len t xs (rowStep t st q)
    have h2 := numP_len st.1 (q, t)
    have e : (rowStep t st q).1 = (numP st.1 (q, t)).1 := rfl
    rw [e] at h1
    have e2 : rowP t (q :: xs) st = rowP t xs (rowStep t st q) := rfl
    rw [e2, List.length_cons]
    omega
/-- an automaton that may be has good nodes -/
theorem chkN_good {n s : Nat} : ∀ {l : List AN}, chkN n s l = 0 → ∀ x ∈ l, (∀ q ∈ x.to, 0 ≤ q ∧ q < (n : Int)) ∧ x.inn / 2 ^ s = 0
  | [], _, x, hx => by simp at hx
  | y :: l, h, x, hx => by
    rw [show chkN n s (y :: l) = if y.to.any (outB n) then 10 else if y.inn / 2 ^ s ≠ 0 then 3 else chkN n s l from rfl] at h
    by_cases h1 : y.to.any (outB n) = true
    · rw [if_pos h1] at h; cases h
    rw [if_neg h1] at h
    by_cases h2 : y.inn / 2 ^ s ≠ 0
    · rw [if_pos h2] at h; cases h
    rw [if_neg h2] at h
    rcases List.mem_cons.1 hx with rfl | hx
    · refine ⟨fun q hq => ?_, by omega⟩
      rw [List.any_eq_true] at h1
      have : ¬ outB n q = true := fun e => h1 ⟨q, hq, e⟩
      unfold outB at this
      simp at this
      omega
    · exact chkN_good h x hx
theorem chk_good {A : AU} (h : chk A = 0) : A.nodes.length ≤ 256 ∧ 0 ≤ A.sets ∧ A.sets ≤ 16 ∧ (∀ q ∈ A.init, 0 ≤ q ∧ q < (A.nodes.length : Int)) ∧ ∀ x ∈ A.nodes, (∀ q ∈ x.to, 0 ≤ q ∧ q < (A.nodes.length : Int)) ∧ x.inn / 2 ^ A.sets.toNat = 0 := by
  unfold chk at h
  by_cases h1 : 256 < A.nodes.length ∨ 16 < A.sets
  · rw [if_pos h1] at h; cases h
  rw [if_neg h1] at h
  by_cases h2 : A.sets < 0
  · rw [if_pos h2] at h; cases h
  rw [if_neg h2] at h
  by_cases h3 : A.init.any (outB A.nodes.length) = true
  · rw [if_pos h3] at h; cases h
  rw [if_neg h3] at h
  refine ⟨by omega, by omega, by omega, fun q hq => ?_, chkN_good h⟩
  rw [List.any_eq_true] at h3
  have : ¬ outB A.nodes.length q = true := fun e => h3 ⟨q, hq, e⟩
  unfold outB at this
  simp at this
  omega
theorem goodP_ok {n s : Nat} (hn : n ≤ 256) (hs : s ≤ 16) {p : PR} (h : goodP n s p) : okP p := by
  obtain ⟨i, t, rfl, h1, h2⟩ := h
  exact ⟨wfI (by simp only; omega), wfI (by simp only; omega)⟩
theorem turn_good {A : AU} {s : Nat} (hA : A.sets = (s : Int)) {i t : Nat} (ht : t < max s 1) : ∃ u : Nat, turnP A ((i : Int), (t : Int)) = (u : Int) ∧ u < max s 1 := by
  unfold turnP
  rw [hA]
  by_cases h : 0 < (s : Int) ∧ bitN (nodeAt A (i : Int)).inn (t : Int) = true
  · rw [if_pos h]
    refine ⟨(t + 1) % s, by simp, ?_⟩
    have := Nat.mod_lt (t + 1) (show 0 < s by omega)
    omega
  · rw [if_neg h]
    exact ⟨t, rfl, ht⟩
theorem good_node {A : AU} {s : Nat} (hA : A.sets = (s : Int)) (hc : chk A = 0) {l : List PR} (hl : ∀ p ∈ l, goodP A.nodes.length s p) {p : PR} (hp : goodP A.nodes.length s p) : ∀ x ∈ (nodeP A l p).1, goodP A.nodes.length s x := by
  obtain ⟨i, t, rfl, h1, h2⟩ := hp
  obtain ⟨u, hu, hu2⟩ := turn_good (A := A) hA (i := i) h2
  obtain ⟨_, _, _, _, hn⟩ := chk_good hc
  unfold nodeP
  simp only
  rw [nodeAt_get h1]
  refine good_row _ _ hl (fun q hq => ?_)
  rw [hu]
  obtain ⟨h3, h4⟩ := (hn _ (List.getElem_mem h1)).1 q hq
  exact ⟨q.toNat, u, by simp; omega, by omega, hu2⟩
end Go.Proofs.Ytefplklkhcpchaa
