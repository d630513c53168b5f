/- Graphs in memory: rows of edges, rows of bools that are known whole, a table of rows that grow. Conditions: the bound on an append. -/
import Derived.Test.YtnllgigolfakpaaMem
import Derived.Test.YtnllgigolfakpaaReachP
import Derived.Test.YtnllgigolfakpaaAutoChk2
namespace Go.Proofs.Ytnllgigolfakpaa
open Go.RowKit

abbrev TE : Nat := 62
abbrev TEs : Nat := 60
abbrev TGr : Nat := 64
abbrev TyB : Nat := 4
theorem infoEd : (Try.prog.info? TE).map (fun i => (i.zero, i.size, i.bytes)) = some (some (.agg #[.int .i64 0, .int .i64 0]), 2, 16) := by kernel_rfl
theorem infoEs : (Try.prog.info? TEs).map (fun i => (i.zero, i.size, i.bytes)) = some (some (.slice none 0 0), 1, 24) := by kernel_rfl
theorem infoBl : (Try.prog.info? TyB).map (fun i => (i.zero, i.size, i.bytes)) = some (some (.bool false), 1, 1) := by kernel_rfl
theorem infoI : (Try.prog.info? 3).map (fun i => (i.zero, i.size, i.bytes)) = some (some (.int .i64 0), 1, 8) := by kernel_rfl
/-- the cells of edges -/
def ecells (l : List Nat) : List Value := l.flatMap fun u : Nat => [.int .i64 (u : Int), .int .i64 0]
theorem ecells_snoc (l : List Nat) (u : Nat) : ecells (l ++ [u]) = ecells l ++ [.int .i64 (u : Int), .int .i64 0] := by simp [ecells]
theorem ecells_len (l : List Nat) : (ecells l).length = l.length * 2 := by
  induction l with
  | nil => rfl
  | cons p l ih => simp only [ecells, List.flatMap_cons, List.length_append, List.length_cons, List.length_nil] at ih ⊢; omega
theorem ecells_at : ∀ (l : List Nat) (i : Nat) (hi : i < l.length), (ecells l)[i * 2]? = some (.int .i64 (l[i] : Int)) ∧ (ecells l)[i * 2 + 1]? = some (.int .i64 0)
  | p :: l, 0, _ => by simp [ecells]
  | p :: l, i + 1, hi => by
    have := ecells_at l i (by simpa using hi)
    simp only [ecells, List.flatMap_cons, List.getElem_cons_succ] at this ⊢
    rw [show (i + 1) * 2 = 2 + i * 2 by omega, show 2 + i * 2 + 1 = 2 + (i * 2 + 1) by omega]
    rw [List.getElem?_append_right (by simp), List.getElem?_append_right (by simp only [List.length_cons, List.length_nil]; omega)]
    simpa using this
/-- edges lie at a place -/
def EsAt (w : World) (a : Option Addr) (l : List Nat) : Prop :=
  0 < l.length → ∃ b off, a = some ⟨b, off, none⟩ ∧ ∀ i (hi : i < l.length), w.cell? ⟨b, off + i * 2, none⟩ = some (.int .i64 (l[i] : Int)) ∧ w.cell? ⟨b, off + i * 2 + 1, none⟩ = some (.int .i64 0)
theorem EsAt.keep {w w' : World} {a : Option Addr} {l : List Nat} (h : EsAt w a l) (hb : ∀ ad, a = some ad → ad.block < w.heap.size → w'.heap[ad.block]? = w.heap[ad.block]?) : EsAt w' a l := by
  intro h0
  obtain ⟨b, off, ha, hc⟩ := h h0
  refine ⟨b, off, ha, fun i hi => ?_⟩
  obtain ⟨h1, h2⟩ := hc i hi
  have hlt := World.block_lt_of_cell? w _ h1
  rw [World.cell?_of_block (a := ⟨b, off + i * 2, none⟩) (hb ⟨b, off, none⟩ ha hlt), World.cell?_of_block (a := ⟨b, off + i * 2 + 1, none⟩) (hb ⟨b, off, none⟩ ha hlt)]
  exact ⟨h1, h2⟩
theorem EsAt.below {w w' : World} {a : Option Addr} {l : List Nat} (h : EsAt w a l) (hb : Below w.heap.size w w') : EsAt w' a l := h.keep fun _ _ hlt => hb.block _ hlt
theorem EsAt.at {w : World} {a : Option Addr} {l : List Nat} (h : EsAt w a l) (j : Nat) (hj : j < l.length) : ∃ b off, a = some ⟨b, off, none⟩ ∧ b < w.heap.size ∧ w.cell? ⟨b, off + j * 2, none⟩ = some (.int .i64 (l[j] : Int)) ∧ w.cell? ⟨b, off + j * 2 + 1, none⟩ = some (.int .i64 0) := by
  obtain ⟨b, off, ha, hc⟩ := h (by omega)
  exact ⟨b, off, ha, World.block_lt_of_cell? w _ (hc j hj).1, (hc j hj).1, (hc j hj).2⟩
theorem EsAt.nil (w : World) (a : Option Addr) : EsAt w a [] := fun h => by simp at h
/-- rows of edges lie at a place -/
def GrAt (w : World) (a : Option Addr) (L : List (List Nat)) : Prop :=
  0 < L.length → ∃ b off, a = some ⟨b, off, none⟩ ∧ ∀ i (hi : i < L.length), ∃ ai ci, w.cell? ⟨b, off + i, none⟩ = some (.slice ai L[i].length ci) ∧ EsAt w ai L[i]
theorem GrAt.below {w w' : World} {a : Option Addr} {L : List (List Nat)} (h : GrAt w a L) (hb : Below w.heap.size w w') : GrAt w' a L := by
  intro h0
  obtain ⟨b, off, ha, hc⟩ := h h0
  refine ⟨b, off, ha, fun i hi => ?_⟩
  obtain ⟨ai, ci, h1, h2⟩ := hc i hi
  exact ⟨ai, ci, bcell hb h1, h2.below hb⟩
theorem GrAt.at {w : World} {a : Option Addr} {L : List (List Nat)} (h : GrAt w a L) (i : Nat) (hi : i < L.length) : ∃ b off ai ci, a = some ⟨b, off, none⟩ ∧ b < w.heap.size ∧ w.cell? ⟨b, off + i, none⟩ = some (.slice ai L[i].length ci) ∧ EsAt w ai L[i] := by
  obtain ⟨b, off, ha, hc⟩ := h (by omega)
  obtain ⟨ai, ci, h1, h2⟩ := hc i hi
  exact ⟨b, off, ai, ci, ha, World.block_lt_of_cell? w _ h1, h1, h2⟩

/-! a table of rows that grow -/
abbrev OB (a : Option Addr) (n c : Nat) : Option Nat := (Value.slice a n c).ownBlock
structure TabAt (w : World) (B g : Nat) (L : List (List Nat)) (S : Nat → Option Addr × Nat) : Prop where
  row : RowAt w g TEs ((List.range L.length).map fun i => .slice (S i).1 (L.getD i []).length (S i).2)
  hg : B ≤ g
  own : ∀ i, i < L.length → OwnR w B TE 2 (S i).1 (L.getD i []).length (S i).2 (ecells (L.getD i []))
  ne : ∀ i, i < L.length → OB (S i).1 (L.getD i []).length (S i).2 ≠ some g
  dis : ∀ i k j, i < L.length → k < L.length → i ≠ k → OB (S i).1 (L.getD i []).length (S i).2 = some j → OB (S k).1 (L.getD k []).length (S k).2 ≠ some j
def updS (S : Nat → Option Addr × Nat) (i : Nat) (v : Option Addr × Nat) : Nat → Option Addr × Nat := fun k => if k = i then v else S k
section
variable {w w' : World} {B g : Nat} {L : List (List Nat)} {S : Nat → Option Addr × Nat}
theorem TabAt.cell (h : TabAt w B g L S) {i : Nat} (hi : i < L.length) : w.cell? ⟨g, i, none⟩ = some (.slice (S i).1 (L.getD i []).length (S i).2) := by
  rw [h.row.cell]
  simp [hi]
theorem TabAt.free (h : TabAt w B g L S) (j : Nat) : w.frozen? ⟨g, j, none⟩ = false := h.row.free j
theorem TabAt.below (h : TabAt w B g L S) (hb : Below w.heap.size w w') : TabAt w' B g L S :=
  ⟨h.row.below hb, h.hg, fun i hi => (h.own i hi).keeps (Keeps.of_below (S := fun _ => False) hb) (fun _ _ h => h), h.ne, h.dis⟩
theorem TabAt.lt (h : TabAt w B g L S) : g < w.heap.size := h.row.lt
/-- blocks of a table -/
def TabBlk (g : Nat) (L : List (List Nat)) (S : Nat → Option Addr × Nat) (j : Nat) : Prop := j = g ∨ ∃ i, i < L.length ∧ OB (S i).1 (L.getD i []).length (S i).2 = some j
theorem TabAt.blk (h : TabAt w B g L S) {j : Nat} (hj : TabBlk g L S j) : B ≤ j ∧ j < w.heap.size := by
  rcases hj with rfl | ⟨i, hi, hj⟩
  · exact ⟨h.hg, h.lt⟩
  · exact (h.own i hi).lt hj
theorem TabAt.keeps {T : Nat → Prop} (h : TabAt w B g L S) (hk : Keeps w w' T) (hn : ∀ j, TabBlk g L S j → ¬ T j) : TabAt w' B g L S :=
  ⟨h.row.keeps hk (hn g (.inl rfl)), h.hg, fun i hi => (h.own i hi).keeps hk (fun j hj => hn j (.inr ⟨i, hi, hj⟩)), h.ne, h.dis⟩
/-- one edge is put behind a row -/
theorem TabAt.app (h : TabAt w B g L S) {wA w3 : World} (hA : Below w.heap.size w wA) {i : Nat} (hi : i < L.length) {u : Nat} {a' : Option Addr} {c' : Nat}
    (ho : OwnR w3 B TE 2 a' ((L.getD i []).length + 1) c' (ecells (L.getD i []) ++ [.int .i64 (u : Int), .int .i64 0])) (hg : wA.grownBy w3 (OB (S i).1 (L.getD i []).length (S i).2))
    (hat : OB a' ((L.getD i []).length + 1) c' = OB (S i).1 (L.getD i []).length (S i).2 ∨ ∃ z, w.heap.size ≤ z ∧ OB a' ((L.getD i []).length + 1) c' = some z) :
    TabAt (w3.setCell ⟨g, i, none⟩ (.slice a' ((L.getD i []).length + 1) c')) B g (L.set i (L.getD i [] ++ [u])) (updS S i (a', c')) ∧ Keeps w (w3.setCell ⟨g, i, none⟩ (.slice a' ((L.getD i []).length + 1) c')) (TabBlk g L S) ∧ (∀ j, TabBlk g (L.set i (L.getD i [] ++ [u])) (updS S i (a', c')) j → TabBlk g L S j ∨ w.heap.size ≤ j) := by
  have hk : Keeps w w3 (fun j => OB (S i).1 (L.getD i []).length (S i).2 = some j) := (Keeps.of_below (S := fun j => OB (S i).1 (L.getD i []).length (S i).2 = some j) hA).trans (Keeps.of_grown (S := fun j => OB (S i).1 (L.getD i []).length (S i).2 = some j) hg (fun j e => e)) (fun _ _ h => h)
  have hks : Keeps w3 (w3.setCell ⟨g, i, none⟩ (.slice a' ((L.getD i []).length + 1) c')) (fun j => j = g) := Keeps.set w3 g i _ rfl
  have hz := hk.size
  have hgl := h.lt
  have hn : ∀ j, OB a' ((L.getD i []).length + 1) c' = some j → OB (S i).1 (L.getD i []).length (S i).2 = some j ∨ w.heap.size ≤ j := by
    intro j hj
    rcases hat with h1 | ⟨z, h1, h2⟩
    · exact .inl (by rw [← h1]; exact hj)
    · rw [h2] at hj
      cases hj
      exact .inr h1
  have eS : updS S i (a', c') i = (a', c') := by simp [updS]
  have eSn : ∀ k, k ≠ i → updS S i (a', c') k = S k := fun k hk => by simp [updS, hk]
  have eL : (L.set i (L.getD i [] ++ [u])).getD i [] = L.getD i [] ++ [u] := by simp [List.getD, hi]
  have eLn : ∀ k, k ≠ i → (L.set i (L.getD i [] ++ [u])).getD k [] = L.getD k [] := fun k hk => by
    simp only [List.getD_eq_getElem?_getD]
    rw [List.getElem?_set_ne (fun e => hk e.symm)]
  have elen : (L.getD i [] ++ [u]).length = (L.getD i []).length + 1 := by simp
  have hgb : ∀ k, k < (L.set i (L.getD i [] ++ [u])).length → ∀ j, OB (updS S i (a', c') k).1 ((L.set i (L.getD i [] ++ [u])).getD k []).length (updS S i (a', c') k).2 = some j → (k ≠ i ∧ OB (S k).1 (L.getD k []).length (S k).2 = some j) ∨ (k = i ∧ (OB (S i).1 (L.getD i []).length (S i).2 = some j ∨ w.heap.size ≤ j)) := fun k hkl j hj => by
    by_cases hki : k = i
    · subst hki
      rw [eS, eL, elen] at hj
      exact .inr ⟨rfl, hn j hj⟩
    · rw [eSn k hki, eLn k hki] at hj
      exact .inl ⟨hki, hj⟩
  have hlen : (L.set i (L.getD i [] ++ [u])).length = L.length := by simp
  refine ⟨⟨?_, h.hg, fun k hkl => ?_, fun k hkl e => ?_, fun k m j h1 h2 h3 h4 h5 => ?_⟩, ⟨hks.os.trans hk.os, hks.tape.trans hk.tape, hks.output.trans hk.output, Nat.le_trans hz hks.size, fun j hj hnj => ?_⟩, fun j hj => ?_⟩
  · have h1 := (h.row.keeps hk (h.ne i hi)).set i (.slice a' ((L.getD i []).length + 1) c')
    have e : ((List.range L.length).map fun i => Value.slice (S i).1 (L.getD i []).length (S i).2).set i (.slice a' ((L.getD i []).length + 1) c') = (List.range (L.set i (L.getD i [] ++ [u])).length).map fun k => Value.slice (updS S i (a', c') k).1 ((L.set i (L.getD i [] ++ [u])).getD k []).length (updS S i (a', c') k).2 := by
      apply List.ext_getElem
      · simp
      · intro k h2 h3
        simp only [List.length_set, List.length_map, List.length_range] at h2
        rw [List.getElem_set]
        by_cases hki : i = k
        · subst hki
          rw [if_pos rfl]
          simp only [List.getElem_map, List.getElem_range, eS, eL, elen]
        · rw [if_neg hki]
          simp only [List.getElem_map, List.getElem_range, eSn k (fun e => hki e.symm), eLn k (fun e => hki e.symm)]
    rw [e] at h1
    exact h1
  · by_cases hki : k = i
    · subst hki
      rw [eS, eL, elen, ecells_snoc]
      refine ho.keeps hks (fun j hj e => ?_)
      subst e
      rcases hn _ hj with h5 | h5
      · exact h.ne _ hi h5
      · omega
    · rw [eSn k hki, eLn k hki]
      have hkl' : k < L.length := by omega
      exact ((h.own k hkl').keeps hk (fun j hj e => h.dis k i j hkl' hi hki hj e)).keeps hks (fun j hj e => by subst e; exact h.ne k hkl' hj)
  · rcases hgb k hkl _ e with ⟨_, h5⟩ | ⟨rfl, h5 | h5⟩
    · exact h.ne k (by omega) h5
    · exact h.ne _ hi h5
    · omega
  · rw [hlen] at h1 h2
    rcases hgb k (by omega) _ h4 with ⟨ki, h6⟩ | ⟨ki, h6⟩
    · rcases hgb m (by omega) _ h5 with ⟨mi, h7⟩ | ⟨rfl, h7⟩
      · exact h.dis k m j h1 h2 h3 h6 h7
      · rcases h7 with h7 | h7
        · exact h.dis k m j h1 h2 h3 h6 h7
        · have := ((h.own k h1).lt h6).2; omega
    · subst ki
      rcases hgb m (by omega) _ h5 with ⟨mi, h7⟩ | ⟨mi, h7⟩
      · rcases h6 with h6 | h6
        · exact h.dis k m j h1 h2 h3 h6 h7
        · have := ((h.own m h2).lt h7).2; omega
      · exact h3 mi.symm
  · rw [hks.block j (by omega) (fun e => hnj (.inl e)), hk.block j hj (fun e => hnj (.inr ⟨i, hi, e⟩))]
  · rcases hj with rfl | ⟨k, hkl, hj⟩
    · exact .inl (.inl rfl)
    · rcases hgb k hkl _ hj with ⟨_, h5⟩ | ⟨rfl, h5 | h5⟩
      · exact .inl (.inr ⟨k, by omega, h5⟩)
      · exact .inl (.inr ⟨_, hi, h5⟩)
      · exact .inr h5
/-- a table that is whole is a graph -/
theorem TabAt.gr (h : TabAt w B g L S) : GrAt w (some ⟨g, 0, none⟩) L := by
  intro _
  refine ⟨g, 0, rfl, fun i hi => ⟨(S i).1, (S i).2, ?_, ?_⟩⟩
  · rw [Nat.zero_add, h.cell hi]
    rw [List.getD_eq_getElem?_getD, List.getElem?_eq_getElem hi]
    rfl
  · have ho := h.own i hi
    rw [List.getD_eq_getElem?_getD, List.getElem?_eq_getElem hi] at ho
    simp only [Option.getD_some] at ho
    intro h0
    obtain ⟨g', e, _, _⟩ := ho.addr h0
    rw [e] at ho
    refine ⟨g', 0, e, fun j hj => ?_⟩
    obtain ⟨c1, c2⟩ := ecells_at L[i] j hj
    rw [Nat.zero_add, ho.cell _ (by omega), ho.cell _ (by omega)]
    exact ⟨c1, c2⟩
end

/-! made rows -/
theorem wp_makeRow {P : Program} {w : World} {ops : Array Oper} {rest : List Oper} {o : Oper} {act : Act} {Q : Exit → Act → World → Prop} (hgd : o.guard = none) (l c : Operand) (t e : TypeId) (z : Value) (by_ : Nat) (hop : o.op = Op.makeSlice t l c) (ht : P.underlying t = some (.slice e))
    (hi : (P.info? e).map (fun i => (i.zero, i.size, i.bytes)) = some (some z, 1, by_)) (hz : z.cells = #[z])
    (n : Nat) (hl : act.eval l = .int .i64 n) (hc : act.eval c = .int .i64 n) (hbytes : by_ * n ≤ 281474976710656) (hby : 0 < by_)
    (h : ∀ w', RowAt w' w.heap.size e (List.replicate n z) → Below w.heap.size w w' → w.heap.size < w'.heap.size → wpList P ops Q rest (act.put o.dst (.slice (some ⟨w.heap.size, 0, none⟩) n n)) w') :
    wpList P ops Q (o :: rest) act w := by
  obtain ⟨i, h1, h2, h3, h4⟩ := info_parts hi
  refine wpList_make_full w hgd l c t hop w.heap.size e i z 1 ht h1 h2 h3 .i64 .i64 n n n hl hc rfl rfl (by rw [h4]; exact hbytes) ?_ (Nat.le_refl _) ?_
  · unfold maxLen
    have : 1 * n ≤ by_ * n := Nat.mul_le_mul_right _ hby
    omega
  · intro w' hown hg
    have hb : Below w.heap.size w w' := bgrown (Below.refl _ _) hg (by intro k hk; cases hk)
    rcases hown.2 with ⟨hv, _⟩ | ⟨g, cap, cur, hv, _, hg2, hnc, _, hcs, htk⟩
    · cases hv
    · cases hv
      refine h w' ?_ hb (Array.getElem?_eq_some_iff.1 hg2).1
      have hm : (madeCells z.cells n).toList = List.replicate n z := by rw [hz, toList_madeCells_one]
      rw [Nat.mul_one] at htk hcs
      rw [List.take_of_length_le (by simp [hcs])] at htk
      rw [hm] at htk
      unfold RowAt
      rw [hg2, ← htk]
theorem TabAt.start {w : World} {B g n : Nat} (h : RowAt w g TEs (List.replicate n (.slice none 0 0))) (hg : B ≤ g) : TabAt w B g (List.replicate n []) (fun _ => (none, 0)) := by
  refine ⟨?_, hg, fun i hi => ?_, fun i hi e => ?_, fun i k j hi hk hne e => ?_⟩
  · have e : ((List.range (List.replicate n ([] : List Nat)).length).map fun i => Value.slice none ((List.replicate n ([] : List Nat)).getD i []).length 0) = List.replicate n (.slice none 0 0) := by
      apply List.ext_getElem
      · simp
      · intro i h1 h2
        simp only [List.length_replicate] at h2
        simp [List.getD, h2]
    rw [e]
    exact h
  · have : (List.replicate n ([] : List Nat)).getD i [] = [] := by
      simp only [List.length_replicate] at hi
      simp [List.getD, hi]
    rw [this]
    exact OwnR.nil _ _ _ _
  · simp [OB, Value.ownBlock] at e
  · simp [OB, Value.ownBlock] at e
/-- bools lie at a place -/
def BsAt (w : World) (a : Option Addr) (xs : List Bool) : Prop :=
  0 < xs.length → ∃ b off, a = some ⟨b, off, none⟩ ∧ ∀ i, i < xs.length → w.cell? ⟨b, off + i, none⟩ = some (.bool (xs.getD i false))
theorem BsAt.keep {w w' : World} {a : Option Addr} {xs : List Bool} (h : BsAt w a xs) (hb : ∀ ad, a = some ad → ad.block < w.heap.size → w'.heap[ad.block]? = w.heap[ad.block]?) : BsAt w' a xs := by
  intro h0
  obtain ⟨b, off, ha, hc⟩ := h h0
  refine ⟨b, off, ha, fun i hi => ?_⟩
  have hlt := World.block_lt_of_cell? w _ (hc i hi)
  rw [World.cell?_of_block (a := ⟨b, off + i, none⟩) (hb ⟨b, off, none⟩ ha hlt)]
  exact hc i hi
theorem BsAt.below {w w' : World} {a : Option Addr} {xs : List Bool} (h : BsAt w a xs) (hb : Below w.heap.size w w') : BsAt w' a xs := h.keep fun _ _ hlt => hb.block _ hlt
theorem BsAt.at {w : World} {a : Option Addr} {xs : List Bool} (h : BsAt w a xs) (j : Nat) (hj : j < xs.length) : ∃ b off, a = some ⟨b, off, none⟩ ∧ b < w.heap.size ∧ w.cell? ⟨b, off + j, none⟩ = some (.bool (xs.getD j false)) := by
  obtain ⟨b, off, ha, hc⟩ := h (by omega)
  exact ⟨b, off, ha, World.block_lt_of_cell? w _ (hc j hj), hc j hj⟩
theorem BsAt.of_row {w : World} {g T : Nat} {xs : List Bool} (h : RowAt w g T (xs.map .bool)) : BsAt w (some ⟨g, 0, none⟩) xs := by
  intro h0
  refine ⟨g, 0, rfl, fun i hi => ?_⟩
  rw [Nat.zero_add, h.cell]
  simp [List.getD, List.getElem?_eq_getElem hi]
/-- a row of bools that tells of which numbers P holds -/
def GivesMarks (w : World) (n : Nat) (P : Nat → Prop) (e : Ending) (w' : World) : Prop :=
  ∃ (g : Nat) (xs : List Bool), e = .returned (.slice (some ⟨g, 0, none⟩) n n) ∧ RowAt w' g TyB (xs.map .bool) ∧ xs.length = n ∧ (∀ v, v < n → (xs.getD v false = true ↔ P v)) ∧ Below w.heap.size w w' ∧ w.heap.size ≤ g
abbrev ints (l : List Nat) : List Int := l.map fun u : Nat => (u : Int)
theorem ints_len (l : List Nat) : (ints l).length = l.length := by simp [ints]
theorem ints_at {l : List Nat} {i : Nat} (hi : i < l.length) : (ints l).getD i 0 = (l[i] : Int) := by simp [ints, List.getD, hi]
/-- a graph as a value -/
abbrev GV (i1 : Option Addr) (m1 c1 : Nat) (ae : Option Addr) (n ce : Nat) (i2 : Option Addr) (m2 c2 : Nat) : Value := .agg #[.slice i1 m1 c1, .slice ae n ce, .slice i2 m2 c2]
abbrev GC (i1 : Option Addr) (m1 c1 : Nat) (ae : Option Addr) (n ce : Nat) (i2 : Option Addr) (m2 c2 : Nat) : List Value := [.slice i1 m1 c1, .slice ae n ce, .slice i2 m2 c2]
end Go.Proofs.Ytnllgigolfakpaa
