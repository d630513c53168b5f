/- Automaton and word side by side, as one graph of numbers: plain. No conditions. -/
import Derived.Test.YtnllgigolfakpaaGrAllP
namespace Go.Proofs.Ytnllgigolfakpaa

/-! rows that are filled one behind the other -/
def fillT (F : Nat → List Nat) (N P : Nat) (cur : List Nat) : List (List Nat) := (List.range N).map fun p => if p < P then F p else if p = P then cur else []
section
variable {F : Nat → List Nat} {N P : Nat} {cur : List Nat}
theorem fillT_len : (fillT F N P cur).length = N := by simp [fillT]
theorem fillT_start : fillT F N 0 [] = List.replicate N [] := by
  apply List.ext_getElem
  · simp [fillT]
  · intro k h1 h2
    simp [fillT]
theorem fillT_row (h : P < N) : (fillT F N P cur).getD P [] = cur := by simp [fillT, List.getD, h]
theorem fillT_put (cur2 : List Nat) : (fillT F N P cur).set P cur2 = fillT F N P cur2 := by
  apply List.ext_getElem
  · simp [fillT]
  · intro k h1 h2
    rw [List.getElem_set]
    simp only [fillT, List.getElem_map, List.getElem_range]
    by_cases e : P = k
    · subst e
      have h3 : ¬ P < P := by omega
      rw [if_pos rfl, if_neg h3, if_pos rfl]
    · have h3 : ¬ k = P := fun h => e h.symm
      rw [if_neg e, if_neg h3, if_neg h3]
theorem fillT_next (h : cur = F P) : fillT F N P cur = fillT F N (P + 1) [] := by
  unfold fillT
  refine List.map_congr_left fun p _ => ?_
  by_cases h1 : p < P
  · have h2 : p < P + 1 := by omega
    rw [if_pos h1, if_pos h2]
  · rw [if_neg h1]
    by_cases h2 : p = P
    · subst h2
      have h3 : p < p + 1 := by omega
      rw [if_pos rfl, if_pos h3, h]
    · have h3 : ¬ p < P + 1 := by omega
      rw [if_neg h2, if_neg h3, ite_self]
theorem fillT_done : fillT F N N cur = (List.range N).map F := by
  unfold fillT
  refine List.map_congr_left fun p hp => ?_
  have : p < N := by simpa using hp
  rw [if_pos this]
end
def ofT (long N P : Nat) : List Nat := (List.range N).map fun p => if p < P then p / long else 0
theorem ofT_start (long N : Nat) : ofT long N 0 = List.replicate N 0 := by
  apply List.ext_getElem
  · simp [ofT]
  · intro k h1 h2
    simp [ofT]
theorem ofT_set {long N P v : Nat} (hv : v = P / long) : (ofT long N P).set P v = ofT long N (P + 1) := by
  apply List.ext_getElem
  · simp [ofT]
  · intro k h1 h2
    rw [List.getElem_set]
    simp only [ofT, List.getElem_map, List.getElem_range]
    by_cases e : P = k
    · subst e
      have h3 : P < P + 1 := by omega
      rw [if_pos rfl, if_pos h3, hv]
    · by_cases h4 : k < P
      · have h3 : k < P + 1 := by omega
        rw [if_neg e, if_pos h4, if_pos h3]
      · have h3 : ¬ k < P + 1 := by omega
        rw [if_neg e, if_neg h4, if_neg h3]

/-! the graph of an automaton and a word side by side -/
def edgeTo (A : AU) (w : WD) (m : Nat) (l : List Int) : List Nat := (l.filter fun t => rdB (ndT A t.toNat) (w.at m)).map fun t => t.toNat * w.len + m
def tkRow (A : AU) (w : WD) (p : Nat) : List Nat := if rdB (ndT A (p / w.len)) (w.at (p % w.len)) = true then edgeTo A w (w.nx (p % w.len)) (ndT A (p / w.len)).to else []
def tkG (A : AU) (w : WD) : List (List Nat) := (List.range (A.nodes.length * w.len)).map (tkRow A w)
theorem edgeTo_snoc {A : AU} {w : WD} {m : Nat} {l : List Int} {i : Nat} (hi : i < l.length) : edgeTo A w m (l.take (i + 1)) = edgeTo A w m (l.take i) ++ if rdB (ndT A l[i].toNat) (w.at m) = true then [l[i].toNat * w.len + m] else [] := by
  unfold edgeTo
  rw [List.take_add_one, List.getElem?_eq_getElem hi, Option.toList_some, List.filter_append, List.map_append]
  congr 1
  by_cases h : rdB (ndT A l[i].toNat) (w.at m) = true
  · rw [if_pos h]
    simp [List.filter_cons, h]
  · rw [if_neg h]
    simp [List.filter_cons, h]
theorem edgeTo_len (A : AU) (w : WD) (m : Nat) (l : List Int) : (edgeTo A w m l).length ≤ l.length := by
  unfold edgeTo
  rw [List.length_map]
  exact List.length_filter_le _ _
theorem nx_lt {w : WD} (h : 0 < w.loop.length) {k : Nat} (hk : k < w.len) : w.nx k < w.len := by
  unfold WD.nx WD.len at *
  by_cases h1 : k + 1 = w.stem.length + w.loop.length
  · rw [if_pos h1]; omega
  · rw [if_neg h1]; omega
section
variable {A : AU} {w : WD}
theorem pr_num {n k : Nat} (hk : k < w.len) : (n * w.len + k) / w.len = n ∧ (n * w.len + k) % w.len = k := by
  have hp : 0 < w.len := by omega
  refine ⟨?_, ?_⟩
  · rw [Nat.mul_comm, Nat.mul_add_div hp, Nat.div_eq_of_lt hk]
    rfl
  · rw [Nat.mul_comm, Nat.mul_add_mod, Nat.mod_eq_of_lt hk]
theorem num_lt {n k : Nat} (hn : n < A.nodes.length) (hk : k < w.len) : n * w.len + k < A.nodes.length * w.len := by
  have : (n + 1) * w.len ≤ A.nodes.length * w.len := Nat.mul_le_mul_right _ hn
  rw [Nat.add_mul] at this
  omega
theorem pos_len (hl : 0 < w.loop.length) : 0 < w.len := by unfold WD.len; omega
theorem back_num (hl : 0 < w.loop.length) {p : Nat} (h : p < A.nodes.length * w.len) : p / w.len < A.nodes.length ∧ p % w.len < w.len ∧ (p / w.len) * w.len + p % w.len = p := by
  have hp := pos_len hl
  refine ⟨Nat.div_lt_of_lt_mul (by rw [Nat.mul_comm]; exact h), Nat.mod_lt _ hp, by rw [Nat.mul_comm]; exact Nat.div_add_mod p w.len⟩
theorem tk_edge (hg : ∀ x ∈ A.nodes, ∀ q ∈ x.to, 0 ≤ q ∧ q < (A.nodes.length : Int)) (hl : 0 < w.loop.length) {p q : Nat} (h : p < A.nodes.length * w.len) : GE (tkG A w) p q ↔ q < A.nodes.length * w.len ∧ PE A w (p / w.len, p % w.len) (q / w.len, q % w.len) := by
  obtain ⟨b1, b2, b3⟩ := back_num hl h
  have hnx := nx_lt hl b2
  unfold GE
  have e : (tkG A w).getD p [] = tkRow A w p := by simp [tkG, List.getD, h]
  rw [e]
  unfold tkRow PE
  by_cases hr : rdB (ndT A (p / w.len)) (w.at (p % w.len)) = true
  · rw [if_pos hr]
    unfold edgeTo
    rw [List.mem_map]
    constructor
    · rintro ⟨t, ht, rfl⟩
      rw [List.mem_filter] at ht
      have hgt := hg _ (by rw [ndT_get b1] at ht; exact List.getElem_mem b1) t (by rw [ndT_get b1] at ht; exact ht.1)
      obtain ⟨u, rfl⟩ := Int.eq_ofNat_of_zero_le hgt.1
      simp only [Int.toNat_natCast] at ht ⊢
      obtain ⟨c1, c2⟩ := pr_num (n := u) hnx
      rw [c1, c2]
      exact ⟨num_lt (by omega) hnx, hr, ht.1, rfl, ht.2⟩
    · rintro ⟨hq, _, h2, h3, h4⟩
      obtain ⟨d1, d2, d3⟩ := back_num hl hq
      simp only at h2 h3 h4
      refine ⟨((q / w.len : Nat) : Int), ?_, ?_⟩
      · rw [List.mem_filter]
        exact ⟨h2, by rw [Int.toNat_natCast, ← h3]; exact h4⟩
      · rw [Int.toNat_natCast, ← h3]
        exact d3
  · rw [if_neg hr]
    simp [hr]
theorem tk_len : (tkG A w).length = A.nodes.length * w.len := by simp [tkG]
theorem tk_ok (hg : ∀ x ∈ A.nodes, ∀ q ∈ x.to, 0 ≤ q ∧ q < (A.nodes.length : Int)) (hl : 0 < w.loop.length) (hN : A.nodes.length * w.len ≤ 1000000) (ht : ∀ x ∈ A.nodes, x.to.length ≤ 1000000) : GrOk 1000000 (tkG A w) := by
  refine ⟨by rw [tk_len]; exact hN, fun l hl' => ?_, fun l hl' v hv => ?_⟩
  · obtain ⟨p, hp, rfl⟩ := List.mem_map.1 hl'
    have hp : p < A.nodes.length * w.len := by simpa using hp
    obtain ⟨b1, _, _⟩ := back_num hl hp
    unfold tkRow
    split
    · refine Nat.le_trans (edgeTo_len _ _ _ _) ?_
      rw [ndT_get b1]
      exact ht _ (List.getElem_mem b1)
    · exact Nat.zero_le _
  · obtain ⟨p, hp, rfl⟩ := List.mem_map.1 hl'
    have hp : p < A.nodes.length * w.len := by simpa using hp
    have h1 : GE (tkG A w) p v := by
      unfold GE
      have e : (tkG A w).getD p [] = tkRow A w p := by simp [tkG, List.getD, hp]
      rw [e]
      exact hv
    rw [tk_len]
    exact ((tk_edge hg hl hp).1 h1).1
theorem of_at {p : Nat} (h : p < A.nodes.length * w.len) : (ofT w.len (A.nodes.length * w.len) (A.nodes.length * w.len)).getD p 0 = p / w.len := by simp [ofT, List.getD, h]
theorem tk_good (hg : ∀ x ∈ A.nodes, ∀ q ∈ x.to, 0 ≤ q ∧ q < (A.nodes.length : Int)) (hl : 0 < w.loop.length) {s : Nat} (hs : A.sets = (s : Int)) {p : Nat} (h : p < A.nodes.length * w.len) : GoodG A (ofT w.len (A.nodes.length * w.len) (A.nodes.length * w.len)) (tkG A w) s p ↔ GoodP A w (p / w.len, p % w.len) := by
  constructor
  · rintro ⟨Y, hY, hp⟩
    have hlt : ∀ q, Y q → q < A.nodes.length * w.len := fun q hq => by have := (hY q hq).1; rwa [tk_len] at this
    have hway : ∀ n a b, WayN (GE (tkG A w)) Y n a b → WayN (PE A w) (fun c : PN => c.1 < A.nodes.length ∧ c.2 < w.len ∧ Y (c.1 * w.len + c.2)) n (a / w.len, a % w.len) (b / w.len, b % w.len) := by
      have hz : ∀ q, Y q → q / w.len < A.nodes.length ∧ q % w.len < w.len ∧ Y (q / w.len * w.len + q % w.len) := fun q hq => by
        obtain ⟨b1, b2, b3⟩ := back_num hl (hlt q hq)
        exact ⟨b1, b2, by rw [b3]; exact hq⟩
      intro n
      induction n with
      | zero => exact fun a b hw => ⟨hz a hw.1, ((tk_edge hg hl (hlt a hw.1)).1 hw.2.1).2, hz b hw.2.2⟩
      | succ n ih =>
        rintro a b ⟨c, h1, h2, h3⟩
        exact ⟨_, hz a h1, ((tk_edge hg hl (hlt a h1)).1 h2).2, ih c b h3⟩
    obtain ⟨b1, b2, b3⟩ := back_num hl h
    refine ⟨fun c : PN => c.1 < A.nodes.length ∧ c.2 < w.len ∧ Y (c.1 * w.len + c.2), fun c hc => ⟨hc.1, hc.2.1⟩, fun c hc => ?_, b1, b2, by rw [b3]; exact hp⟩
    obtain ⟨c1, c2, c3⟩ := hc
    obtain ⟨d1, d2⟩ := pr_num (n := c.1) c2
    have hYc := (hY _ c3).2
    refine ⟨?_, fun i hi => ?_⟩
    · obtain ⟨q, ⟨n, hw⟩, _⟩ := hYc (-1) (Int.le_refl _) (by omega)
      have := hway n _ _ hw
      rw [d1, d2] at this
      exact ⟨_, n, this⟩
    · obtain ⟨q, ⟨n, hw⟩, hc⟩ := hYc (i : Int) (by omega) (by rw [hs] at hi; omega)
      have := hway n _ _ hw
      rw [d1, d2] at this
      refine ⟨_, ⟨n, this⟩, ?_⟩
      rcases hc with hc | hc
      · omega
      · rw [of_at (hlt q hw.lst), Int.toNat_natCast] at hc
        exact hc
  · rintro ⟨Z, hi, hc, hz⟩
    have hway : ∀ n a b, WayN (PE A w) Z n a b → WayN (GE (tkG A w)) (fun q => q < A.nodes.length * w.len ∧ Z (q / w.len, q % w.len)) n (a.1 * w.len + a.2) (b.1 * w.len + b.2) := by
      have hy : ∀ c : PN, Z c → c.1 * w.len + c.2 < A.nodes.length * w.len ∧ Z ((c.1 * w.len + c.2) / w.len, (c.1 * w.len + c.2) % w.len) := fun c hc => by
        obtain ⟨i1, i2⟩ := hi c hc
        obtain ⟨d1, d2⟩ := pr_num (n := c.1) i2
        rw [d1, d2]
        exact ⟨num_lt i1 i2, hc⟩
      have he : ∀ a b : PN, Z a → Z b → PE A w a b → GE (tkG A w) (a.1 * w.len + a.2) (b.1 * w.len + b.2) := fun a b ha hb hab => by
        obtain ⟨i1, i2⟩ := hi a ha
        obtain ⟨j1, j2⟩ := hi b hb
        obtain ⟨d1, d2⟩ := pr_num (n := a.1) i2
        obtain ⟨d3, d4⟩ := pr_num (n := b.1) j2
        refine (tk_edge hg hl (num_lt i1 i2)).2 ⟨num_lt j1 j2, ?_⟩
        rw [d1, d2, d3, d4]
        exact hab
      intro n
      induction n with
      | zero => exact fun a b hw => ⟨hy a hw.1, he a b hw.1 hw.2.2 hw.2.1, hy b hw.2.2⟩
      | succ n ih =>
        rintro a b ⟨c, h1, h2, h3⟩
        exact ⟨_, hy a h1, he a c h1 h3.fst h2, ih c b h3⟩
    refine ⟨fun q => q < A.nodes.length * w.len ∧ Z (q / w.len, q % w.len), fun q hq => ⟨by rw [tk_len]; exact hq.1, fun i h1 h2 => ?_⟩, h, hz⟩
    obtain ⟨hq1, hq2⟩ := hq
    obtain ⟨b1, b2, b3⟩ := back_num hl hq1
    obtain ⟨⟨r, n, hw⟩, hsets⟩ := hc _ hq2
    by_cases hneg : i < 0
    · have := hway n _ _ hw
      simp only [b3] at this
      exact ⟨_, ⟨n, this⟩, .inl hneg⟩
    · obtain ⟨j, rfl⟩ := Int.eq_ofNat_of_zero_le (show 0 ≤ i by omega)
      obtain ⟨r, ⟨n, hw⟩, hb⟩ := hsets j (by rw [hs]; simp; omega)
      have h3 := hway n _ _ hw
      simp only [b3] at h3
      obtain ⟨i1, i2⟩ := hi r hw.lst
      refine ⟨_, ⟨n, h3⟩, .inr ?_⟩
      rw [of_at (num_lt i1 i2), Int.toNat_natCast, (pr_num (n := r.1) i2).1]
      exact hb
end
end Go.Proofs.Ytnllgigolfakpaa
