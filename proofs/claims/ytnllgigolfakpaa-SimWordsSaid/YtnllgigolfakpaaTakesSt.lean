/- The state while an automaton and a word are laid side by side. No conditions. -/
import Derived.Test.YtnllgigolfakpaaTakesW
namespace Go.Proofs.Ytnllgigolfakpaa
open Go.RowKit

/-- an automaton that may be has good nodes -/
theorem chkN_goodT {n s : Nat} : ∀ {l : List AN}, chkN n s l = 0 → ∀ x ∈ l, (∀ q ∈ x.to, 0 ≤ q ∧ q < (n : Int)) ∧ x.inn / 2 ^ s = 0
  | [], _, x, hx => by simp at hx
  | y :: l, h, x, hx => by
    rw [show chkN n s (y :: l) = if y.to.any (outB n) then 10 else if y.inn / 2 ^ s ≠ 0 then 3 else chkN n s l from rfl] at h
    by_cases h1 : y.to.any (outB n) = true
    · rw [if_pos h1] at h; cases h
    rw [if_neg h1] at h
    by_cases h2 : y.inn / 2 ^ s ≠ 0
    · rw [if_pos h2] at h; cases h
    rw [if_neg h2] at h
    rcases List.mem_cons.1 hx with rfl | hx
    · refine ⟨fun q hq => ?_, by omega⟩
      rw [List.any_eq_true] at h1
      have : ¬ outB n q = true := fun e => h1 ⟨q, hq, e⟩
      unfold outB at this
      simp at this
      omega
    · exact chkN_goodT h x hx
theorem chk_goodT {A : AU} (h : chk A = 0) : A.nodes.length ≤ 256 ∧ 0 ≤ A.sets ∧ A.sets ≤ 16 ∧ (∀ q ∈ A.init, 0 ≤ q ∧ q < (A.nodes.length : Int)) ∧ ∀ x ∈ A.nodes, (∀ q ∈ x.to, 0 ≤ q ∧ q < (A.nodes.length : Int)) ∧ x.inn / 2 ^ A.sets.toNat = 0 := by
  unfold chk at h
  by_cases h1 : 256 < A.nodes.length ∨ 16 < A.sets
  · rw [if_pos h1] at h; cases h
  rw [if_neg h1] at h
  by_cases h2 : A.sets < 0
  · rw [if_pos h2] at h; cases h
  rw [if_neg h2] at h
  by_cases h3 : A.init.any (outB A.nodes.length) = true
  · rw [if_pos h3] at h; cases h
  rw [if_neg h3] at h
  refine ⟨by omega, by omega, by omega, fun q hq => ?_, chkN_goodT h⟩
  rw [List.any_eq_true] at h3
  have : ¬ outB A.nodes.length q = true := fun e => h3 ⟨q, hq, e⟩
  unfold outB at this
  simp at this
  omega
structure TkSt (W wr : World) (ra rb : List Value) (g go : Nat) (L : List (List Nat)) (S : Nat → Option Addr × Nat) (fo : List Nat) : Prop where
  low : Below W.heap.size W wr
  ba : RowAt wr W.heap.size AUT ra
  bw : RowAt wr (W.heap.size + 1) TWd rb
  tab : TabAt wr g g L S
  of_ : RowAt wr go 3 ((ints fo).map (.int .i64))
  ne : ∀ j, TabBlk g L S j → j ≠ go
  h1 : W.heap.size + 1 < g
  h2 : g < go
section
variable {W wr w' w3 : World} {ra rb : List Value} {g go : Nat} {L : List (List Nat)} {S : Nat → Option Addr × Nat} {fo : List Nat}
theorem TkSt.below (h : TkSt W wr ra rb g go L S fo) (hb : Below wr.heap.size wr w') : TkSt W w' ra rb g go L S fo :=
  ⟨btrans h.low hb, h.ba.below hb, h.bw.below hb, h.tab.below hb, h.of_.below hb, h.ne, h.h1, h.h2⟩
theorem TkSt.setOf (h : TkSt W wr ra rb g go L S fo) (P v : Nat) : TkSt W (wr.setCell ⟨go, P, none⟩ (.int .i64 (v : Int))) ra rb g go L S (fo.set P v) := by
  have hk := Keeps.set wr go P (.int .i64 (v : Int)) (S := fun j => j = go) rfl
  have h1 := h.h1
  have h2 := h.h2
  have hr := h.of_.set P (.int .i64 (v : Int))
  have e : ((ints fo).map (Value.int .i64)).set P (.int .i64 (v : Int)) = (ints (fo.set P v)).map (.int .i64) := by simp [ints, List.map_set]
  rw [e] at hr
  exact ⟨hk.below h.low (fun j hj => by omega), h.ba.keeps hk (by omega), h.bw.keeps hk (by omega), h.tab.keeps hk (fun j hj e => h.ne j hj e), hr, h.ne, h1, h2⟩
theorem TkSt.app (h : TkSt W wr ra rb g go L S fo) {wA : World} (hA : Below wr.heap.size wr wA) {i : Nat} (hi : i < L.length) {u : Nat} {a' : Option Addr} {c' : Nat}
    (ho : OwnR w3 g TE 2 a' ((L.getD i []).length + 1) c' (ecells (L.getD i []) ++ [.int .i64 (u : Int), .int .i64 0])) (hg : wA.grownBy w3 (OB (S i).1 (L.getD i []).length (S i).2))
    (hat : OB a' ((L.getD i []).length + 1) c' = OB (S i).1 (L.getD i []).length (S i).2 ∨ ∃ z, wr.heap.size ≤ z ∧ OB a' ((L.getD i []).length + 1) c' = some z) :
    TkSt W (w3.setCell ⟨g, i, none⟩ (.slice a' ((L.getD i []).length + 1) c')) ra rb g go (L.set i (L.getD i [] ++ [u])) (updS S i (a', c')) fo := by
  obtain ⟨k1, k2, k3⟩ := h.tab.app hA hi ho hg hat
  have h1 := h.h1
  have h2 := h.h2
  have hgo := h.of_.lt
  have hb : ∀ j, TabBlk g L S j → g ≤ j := fun j hj => (h.tab.blk hj).1
  exact ⟨k2.below h.low (fun j hj => by have := hb j hj; omega), h.ba.keeps k2 (fun hj => by have := hb _ hj; omega), h.bw.keeps k2 (fun hj => by have := hb _ hj; omega), k1, h.of_.keeps k2 (fun hj => h.ne _ hj rfl), fun j hj => by
    rcases k3 j hj with h5 | h5
    · exact h.ne j h5
    · omega, h1, h2⟩
end
theorem at_lt {w : WD} (ok : WordOk w) (h0 : 0 < w.loop.length) (k : Nat) : w.at k < 18446744073709551616 := by
  unfold WD.at
  by_cases hk : k < w.stem.length
  · rw [if_pos hk, List.getD_eq_getElem?_getD, List.getElem?_eq_getElem hk]
    exact ok.stem _ (List.getElem_mem hk)
  · have hj := Nat.mod_lt (k - w.stem.length) h0
    rw [if_neg hk, List.getD_eq_getElem?_getD, List.getElem?_eq_getElem hj]
    exact ok.loop _ (List.getElem_mem hj)
/-- the first places from which the word is gone through -/
def fromL (A : AU) (w : WD) (l : List Int) : List Nat := (l.filter fun q => rdB (ndT A q.toNat) (w.at 0)).map fun q => q.toNat * w.len
theorem fromL_snoc {A : AU} {w : WD} {l : List Int} {i : Nat} (hi : i < l.length) : fromL A w (l.take (i + 1)) = fromL A w (l.take i) ++ if rdB (ndT A l[i].toNat) (w.at 0) = true then [l[i].toNat * w.len] else [] := by
  unfold fromL
  rw [List.take_add_one, List.getElem?_eq_getElem hi, Option.toList_some, List.filter_append, List.map_append]
  congr 1
  by_cases h : rdB (ndT A l[i].toNat) (w.at 0) = true
  · rw [if_pos h]
    simp [List.filter_cons, h]
  · rw [if_neg h]
    simp [List.filter_cons, h]
theorem fromL_len (A : AU) (w : WD) (l : List Int) : (fromL A w l).length ≤ l.length := by
  unfold fromL
  rw [List.length_map]
  exact List.length_filter_le _ _
theorem takes_from {A : AU} {w : WD} (hi : ∀ q ∈ A.init, 0 ≤ q ∧ q < (A.nodes.length : Int)) (hg : ∀ x ∈ A.nodes, ∀ q ∈ x.to, 0 ≤ q ∧ q < (A.nodes.length : Int)) (hl : 0 < w.loop.length) {s : Nat} (hs : A.sets = (s : Int)) :
    TakesP A w ↔ ∃ p ∈ fromL A w A.init, GoodG A (ofT w.len (A.nodes.length * w.len) (A.nodes.length * w.len)) (tkG A w) s p := by
  have h0 := pos_len hl
  unfold TakesP fromL
  constructor
  · rintro ⟨q, hq, hr, hgd⟩
    obtain ⟨a, b⟩ := hi q hq
    refine ⟨q.toNat * w.len, List.mem_map.2 ⟨q, List.mem_filter.2 ⟨hq, hr⟩, rfl⟩, ?_⟩
    have hlt := num_lt (A := A) (w := w) (n := q.toNat) (by omega) h0
    obtain ⟨d1, d2⟩ := pr_num (w := w) (n := q.toNat) h0
    rw [Nat.add_zero] at hlt d1 d2
    refine (tk_good hg hl hs hlt).2 ?_
    rw [d1, d2]
    exact hgd
  · rintro ⟨p, hp, hgd⟩
    obtain ⟨q, hq, rfl⟩ := List.mem_map.1 hp
    rw [List.mem_filter] at hq
    obtain ⟨a, b⟩ := hi q hq.1
    have hlt := num_lt (A := A) (w := w) (n := q.toNat) (by omega) h0
    obtain ⟨d1, d2⟩ := pr_num (w := w) (n := q.toNat) h0
    rw [Nat.add_zero] at hlt d1 d2
    have := (tk_good hg hl hs hlt).1 hgd
    rw [d1, d2] at this
    exact ⟨q, hq.1, hq.2, this⟩
theorem fromL_lt {A : AU} {w : WD} (hi : ∀ q ∈ A.init, 0 ≤ q ∧ q < (A.nodes.length : Int)) (hl : 0 < w.loop.length) : ∀ p ∈ fromL A w A.init, p < A.nodes.length * w.len := fun p hp => by
  obtain ⟨q, hq, rfl⟩ := List.mem_map.1 hp
  rw [List.mem_filter] at hq
  obtain ⟨a, b⟩ := hi q hq.1
  have := num_lt (A := A) (w := w) (n := q.toNat) (by omega) (pos_len hl)
  omega
/-- a node's cells -/
theorem NodesAt.cellsT {W : World} {an : Option Addr} {A : AU} (h : NodesAt W an A.nodes) {n : Nat} (hn : n < A.nodes.length) : ∃ b off a c, an = some ⟨b, off, none⟩ ∧ W.cell? ⟨b, off + n * 4, none⟩ = some (.int .u64 (ndT A n).need) ∧ W.cell? ⟨b, off + n * 4 + 1, none⟩ = some (.int .u64 (ndT A n).ban) ∧ W.cell? ⟨b, off + n * 4 + 2, none⟩ = some (.int .u64 (ndT A n).inn) ∧ W.cell? ⟨b, off + n * 4 + 3, none⟩ = some (.slice a (ndT A n).to.length c) ∧ NumsAt .i64 W a (ndT A n).to := by
  obtain ⟨b, off, hab, h0, h1, h2, a, c, h3, h4⟩ := h.at n hn
  rw [← ndT_get hn] at h0 h1 h2 h3 h4
  exact ⟨b, off, a, c, hab, h0, h1, h2, h3, h4⟩
end Go.Proofs.Ytnllgigolfakpaa
