/- What Graph, New and Search give, one behind the other; the plain law of 'NdfsUsed'. No conditions. Two slices of the same pairs are held against one another by the library's Equal. Conditions: few. -/
import Derived.Test.YtfcpfcgcfaacnaaSNdUP
import Derived.Test.YtfcpfcgcfaacnaaSNdSearchN
import Derived.Test.YtfcpfcgcfaacnaaSNdLaw
import Derived.Test.YtfcpfcgcfaacnaaSPrNew
import Derived.Test.YtfcpfcgcfaacnaaSPrWhole
namespace Go.Proofs.Ytfcpfcgcfaacnaa
open Go.RowKit
def NewV (w : World) (G : GR) (sets : List (List Bool)) (A : AU) (v : Value) : Prop :=
 (newB G sets A = true ∧ ∃ p, v = .pointer (some ⟨p, 0, none⟩) ∧ PrAt w p G sets A) ∨ (newB G sets A = false ∧ v = .pointer none)
theorem NewV.below {w w' : World} {G : GR} {sets : List (List Bool)} {A : AU} {v : Value} (h : NewV w G sets A v) (hb : Below w.heap.size w w') : NewV w' G sets A v := by
 rcases h with ⟨h1, p, h2, h3⟩ | h
 ·exact .inl ⟨h1, p, h2, h3.below hb⟩
 ·exact .inr h
theorem NewMade.v {G : GR} {sets : List (List Bool)} {A : AU} {w w' : World} {e : Ending} (h : NewMade G sets A w e w') : ∃ v, e = .returned v ∧ NewV w' G sets A v := by
 rcases h.2 with ⟨h1, p, h2, h3⟩ | ⟨h1, h2⟩
 ·exact ⟨_, h2, .inl ⟨h1, p, rfl, h3⟩⟩
 ·exact ⟨_, h2, .inr ⟨h1, rfl⟩⟩
def resP (G : GR) (sets : List (List Bool)) (A : AU) (bn bd : Int) : NF := if newB G sets A = true then searchP G sets A bn bd else ⟨1, 0, 0, 0, 0, [], []⟩
theorem search_v (w : World) (G : GR) (sets : List (List Bool)) (A : AU) (v : Value) (hv : NewV w G sets A v) (lt : Lt G sets A) (bn bd : Int) :
  Calls Try.prog 14 #[v, .agg #[.int .i64 bn, .int .i64 bd]] w fun e w' => ∃ v, e = .returned v ∧ Below w.heap.size w w' ∧ FoundNew w.heap.size w' v (resP G sets A bn bd) := by
 unfold resP
 rcases hv with ⟨h1, p, rfl, hp⟩ | ⟨h1, rfl⟩
 ·rw [if_pos h1]
  exact search_made w p G sets A hp lt h1 bn bd
 ·rw [if_neg (by rw [h1]; decide)]
  exact search_nil w bn bd
def blkOf (v : Value) (b : Nat) : Prop := ∃ (c : Array Value) (k : Nat) (ad : Addr) (n cap : Nat), v = .agg c ∧ c[k]? = some (.slice (some ad) (n + 1) cap) ∧ ad.block = b
theorem FoundNew.blk {base : Nat} {w : World} {v : Value} {f : NF} (h : FoundNew base w v f) {b : Nat} (hb : blkOf v b) : base ≤ b ∧ b < w.heap.size := by
 obtain ⟨sa, sc, la, lc, h1, ⟨h2, h3⟩, h4, h5⟩ := h
 obtain ⟨c, k, ad, n, cap, e1, e2, e3⟩ := hb
 rw [h1] at e1
 injection e1 with e1
 subst e1
 match k with
 | 0 => cases e2
 | 1 => cases e2
 | 2 => cases e2
 | 3 => cases e2
 | 4 => cases e2
 | 5 =>
  have e2' : Value.slice sa f.stem.length sc = .slice (some ad) (n + 1) cap := Option.some.inj e2
  injection e2' with q1 q2
  subst q1
  obtain ⟨b', off, hb, hl, _⟩ := h2.at 0 (by omega)
  cases hb
  have q3 : b' = b := e3
  have q4 : base ≤ b' := h3 _ rfl
  omega
 | 6 =>
  have e2' : Value.slice la f.loop.length lc = .slice (some ad) (n + 1) cap := Option.some.inj e2
  injection e2' with q1 q2
  subst q1
  obtain ⟨b', off, hb, hl, _⟩ := h4.at 0 (by omega)
  cases hb
  have q3 : b' = b := e3
  have q4 : base ≤ b' := h5 _ rfl
  omega
 | k + 7 => simp [fcells] at e2
theorem first_ok {G : GR} {sets : List (List Bool)} {A : AU} (hn : newB G sets A = true) : ∀ y ∈ firstP G A, vPP G sets A y := by
 obtain ⟨hs, hc⟩ : srcB G sets = true ∧ chk A = 0 := by
  unfold newB at hn
  rw [Bool.and_eq_true] at hn
  exact ⟨hn.1, of_decide_eq_true hn.2⟩
 exact first_valid (src_sets hs).1 hc
end Go.Proofs.Ytfcpfcgcfaacnaa
namespace Go.Proofs.Ytfcpfcgcfaacnaa
open Go.RowKit
theorem res_len {G : GR} {sets : List (List Bool)} {A : AU} (lt : Lt G sets A) (bn bd : Int) : (resP G sets A bn bd).stem.length + (resP G sets A bn bd).loop.length ≤ 4000 := by
 unfold resP
 by_cases hn : newB G sets A = true
 ·rw [if_pos hn]
  have N := nice_of lt hn
  rcases search_told (b := ⟨heldP bn, heldP bd⟩) (inq := inP G sets A) N (by decide) (first_ok hn) with h | h
  ·obtain ⟨R, r1, r2, r3⟩ := h.few
   have hf := N.few R r1 r2
   have h3 := h.dn
   have h4 := h.ln
   change (searchP G sets A bn bd).depth ≤ (searchP G sets A bn bd).nodes at h3
   change (searchP G sets A bn bd).nodes = R.length at r3
   change (searchP G sets A bn bd).stem.length + (searchP G sets A bn bd).loop.length ≤ (searchP G sets A bn bd).depth + 1 at h4
   omega
  ·obtain ⟨_, _, h1, h2⟩ := h.kind
   change (searchP G sets A bn bd).stem = [] at h1
   change (searchP G sets A bn bd).loop = [] at h2
   rw [h1, h2]
   decide
 ·rw [if_neg hn]
  decide
end Go.Proofs.Ytfcpfcgcfaacnaa
