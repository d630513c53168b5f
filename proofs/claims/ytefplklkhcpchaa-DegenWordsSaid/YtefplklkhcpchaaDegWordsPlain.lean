/- An automaton, and one of one set whose nodes are its nodes with turns, take the same words: plain. No conditions. -/
import Derived.Test.YtefplklkhcpchaaReachP
namespace Go.Proofs.Ytefplklkhcpchaa

/-- the turn behind a node -/
def trn (A : AU) (s q t : Nat) : Nat := if 0 < s ∧ (ndT A q).inn.testBit t = true then (t + 1) % s else t
/-- the nodes of B are nodes of A with turns -/
structure Prd (A B : AU) (s : Nat) (L : Nat → Nat → Nat → Prop) : Prop where
  hA : A.sets.toNat = s
  hB : B.sets.toNat = 1
  inb : ∀ i q t, L i q t → i < B.nodes.length ∧ q < A.nodes.length ∧ t < max s 1
  tot : ∀ i, i < B.nodes.length → ∃ q t, L i q t
  fn : ∀ i q t q' t', L i q t → L i q' t' → q = q' ∧ t = t'
  need : ∀ i q t, L i q t → (ndT B i).need = (ndT A q).need ∧ (ndT B i).ban = (ndT A q).ban
  inn : ∀ i q t, L i q t → ((ndT B i).inn.testBit 0 = true ↔ (s = 0 ∨ (t = 0 ∧ (ndT A q).inn.testBit 0 = true)))
  to1 : ∀ i q t, L i q t → ∀ b : Nat, (b : Int) ∈ (ndT A q).to → ∃ x : Nat, (x : Int) ∈ (ndT B i).to ∧ L x b (trn A s q t)
  to2 : ∀ i q t, L i q t → ∀ x : Nat, (x : Int) ∈ (ndT B i).to → ∃ b : Nat, (b : Int) ∈ (ndT A q).to ∧ L x b (trn A s q t)
  ini1 : ∀ q ∈ A.init, ∃ x : Nat, (x : Int) ∈ B.init ∧ L x q.toNat 0
  ini2 : ∀ x ∈ B.init, ∃ q ∈ A.init, L x.toNat q.toNat 0
section
variable {A B : AU} {s : Nat} {L : Nat → Nat → Nat → Prop} {w : WD}
theorem Prd.reads (h : Prd A B s L) {i q t : Nat} (hl : L i q t) (u : Nat) : rdB (ndT B i) u = rdB (ndT A q) u := by
  obtain ⟨h1, h2⟩ := h.need i q t hl
  unfold rdB
  rw [h1, h2]
theorem Prd.up (h : Prd A B s L) {p r : PN} (he : PE A w p r) {i t : Nat} (hl : L i p.1 t) : ∃ x, PE B w (i, p.2) (x, r.2) ∧ L x r.1 (trn A s p.1 t) := by
  obtain ⟨e1, e2, e3, e4⟩ := he
  obtain ⟨x, hx, hlx⟩ := h.to1 _ _ _ hl _ e2
  exact ⟨x, ⟨by rw [h.reads hl]; exact e1, hx, e3, by rw [h.reads hlx]; exact e4⟩, hlx⟩
theorem Prd.down (h : Prd A B s L) {p r : PN} (he : PE B w p r) {q t : Nat} (hl : L p.1 q t) : ∃ b, PE A w (q, p.2) (b, r.2) ∧ L r.1 b (trn A s q t) := by
  obtain ⟨e1, e2, e3, e4⟩ := he
  obtain ⟨b, hb, hlb⟩ := h.to2 _ _ _ hl _ e2
  exact ⟨b, ⟨by rw [← h.reads hl]; exact e1, hb, e3, by rw [← h.reads hlb]; exact e4⟩, hlb⟩
/-! from A to B -/
def UpZ (L : Nat → Nat → Nat → Prop) (Z : PN → Prop) (p : PN) : Prop := ∃ q t, L p.1 q t ∧ Z (q, p.2)
/-- the turn stays till a node is of its set -/
theorem Prd.stay (h : Prd A B s L) {Z : PN → Prop} : ∀ {n : Nat} {p r : PN}, WayN (PE A w) Z n p r → ∀ {t : Nat}, (ndT A r.1).inn.testBit t = true → ∀ {i : Nat}, L i p.1 t →
    ∃ x b k, Way0 (PE B w) (UpZ L Z) (i, p.2) (x, k) ∧ L x b t ∧ Z (b, k) ∧ (ndT A b).inn.testBit t = true
  | n, p, r, hw, t, hb, i, hl => by
    by_cases hp : (ndT A p.1).inn.testBit t = true
    · exact ⟨i, p.1, p.2, .inl rfl, hl, hw.fst, hp⟩
    have ht : trn A s p.1 t = t := by unfold trn; rw [if_neg (fun hh => hp hh.2)]
    match n, hw with
    | 0, ⟨h1, h2, h3⟩ =>
      obtain ⟨x, e, hlx⟩ := h.up h2 hl
      rw [ht] at hlx
      exact ⟨x, r.1, r.2, .inr (Way.one ⟨p.1, t, hl, h1⟩ e ⟨r.1, t, hlx, h3⟩), hlx, h3, hb⟩
    | n + 1, ⟨u, h1, h2, h3⟩ =>
      obtain ⟨x, e, hlx⟩ := h.up h2 hl
      rw [ht] at hlx
      obtain ⟨y, b, k, k1, k2, k3, k4⟩ := h.stay h3 hb hlx
      exact ⟨y, b, k, .inr ((Way.one ⟨p.1, t, hl, h1⟩ e ⟨u.1, t, hlx, h3.fst⟩).trans0 k1), k2, k3, k4⟩
def dist (s t : Nat) : Nat := if t = 0 then 0 else s - t
theorem Prd.acc (h : Prd A B s L) {Z : PN → Prop} (hi : Inside A w Z) (hc : Closed A w Z) (d : Nat) : ∀ {i q t k : Nat}, L i q t → Z (q, k) → dist s t = d → ∃ x m, Way0 (PE B w) (UpZ L Z) (i, k) (x, m) ∧ (ndT B x).inn.testBit 0 = true := by
  induction d using Nat.strongRecOn with
  | ind d ih =>
    intro i q t k hl hz hd
    obtain ⟨_, _, ht⟩ := h.inb _ _ _ hl
    by_cases hs : s = 0
    · exact ⟨i, k, .inl rfl, (h.inn _ _ _ hl).2 (.inl hs)⟩
    have hts : t < s := by omega
    obtain ⟨r, ⟨n, hw⟩, hb⟩ := (hc _ hz).2 t (by rw [h.hA]; exact hts)
    obtain ⟨x, b, m, w1, l1, z1, b1⟩ := h.stay hw hb hl
    by_cases h0 : t = 0
    · subst h0
      exact ⟨x, m, w1, (h.inn _ _ _ l1).2 (.inr ⟨rfl, b1⟩)⟩
    obtain ⟨⟨r2, hw2⟩, _⟩ := hc _ z1
    obtain ⟨_, u, e, zu, _⟩ := hw2.cases
    obtain ⟨y, e2, l2⟩ := h.up e l1
    have htr : trn A s b t = (t + 1) % s := by unfold trn; rw [if_pos ⟨by omega, b1⟩]
    simp only at l2 e2
    rw [htr] at l2
    have hdd : dist s ((t + 1) % s) < d := by
      subst hd
      unfold dist
      rw [if_neg h0]
      by_cases hl : t + 1 = s
      · rw [hl, Nat.mod_self, if_pos rfl]; omega
      · rw [Nat.mod_eq_of_lt (by omega), if_neg (by omega)]; omega
    obtain ⟨z, m2, w3, b3⟩ := ih (dist s ((t + 1) % s)) hdd l2 zu rfl
    exact ⟨z, m2, w1.trans (.inr ((Way.one ⟨b, t, l1, z1⟩ e2 ⟨u.1, _, l2, zu⟩).trans0 w3)), b3⟩
theorem Prd.good_up (h : Prd A B s L) {i q t k : Nat} (hl : L i q t) (hg : GoodP A w (q, k)) : GoodP B w (i, k) := by
  obtain ⟨Z, hi, hc, hz⟩ := hg
  refine ⟨UpZ L Z, fun p ⟨q, t, hl, hz⟩ => ⟨(h.inb _ _ _ hl).1, (hi _ hz).2⟩, fun p ⟨q, t, hl, hz⟩ => ?_, q, t, hl, hz⟩
  obtain ⟨⟨r, hw⟩, _⟩ := hc _ hz
  obtain ⟨_, u, e, zu, _⟩ := hw.cases
  obtain ⟨y, e2, l2⟩ := h.up e hl
  have w1 : Way (PE B w) (UpZ L Z) p (y, u.2) := Way.one ⟨q, t, hl, hz⟩ e2 ⟨u.1, _, l2, zu⟩
  obtain ⟨x, m, w2, hb⟩ := h.acc hi hc _ l2 zu rfl
  refine ⟨⟨_, w1⟩, fun j hj => ?_⟩
  rw [h.hB] at hj
  obtain rfl : j = 0 := by omega
  exact ⟨(x, m), w1.trans0 w2, hb⟩

/-! from B to A -/
def DownZ (L : Nat → Nat → Nat → Prop) (Z : PN → Prop) (p : PN) : Prop := ∃ i t, L i p.1 t ∧ Z (i, p.2)
theorem Prd.way_down (h : Prd A B s L) {Z : PN → Prop} : ∀ {n : Nat} {p r : PN}, WayN (PE B w) Z n p r → ∀ {q t : Nat}, L p.1 q t → ∃ b u, WayN (PE A w) (DownZ L Z) n (q, p.2) (b, r.2) ∧ L r.1 b u
  | 0, p, r, ⟨h1, h2, h3⟩, q, t, hl => by
    obtain ⟨b, e, hlb⟩ := h.down h2 hl
    exact ⟨b, _, ⟨⟨_, _, hl, h1⟩, e, ⟨_, _, hlb, h3⟩⟩, hlb⟩
  | n + 1, p, r, ⟨u, h1, h2, h3⟩, q, t, hl => by
    obtain ⟨b, e, hlb⟩ := h.down h2 hl
    obtain ⟨c, v, hw, hlc⟩ := h.way_down h3 hlb
    exact ⟨c, v, ⟨_, ⟨_, _, hl, h1⟩, e, hw⟩, hlc⟩
/-- on the way back to the first turn each set is met -/
theorem Prd.meets (h : Prd A B s L) {Z : PN → Prop} {j : Nat} (hj : j < s) : ∀ {n : Nat} {p r : PN}, WayN (PE B w) Z n p r → ∀ {q t b : Nat}, L p.1 q t → 1 ≤ t → t ≤ j → L r.1 b 0 →
    ∃ c, Way0 (PE A w) (DownZ L Z) (q, p.2) c ∧ (ndT A c.1).inn.testBit j = true
  | n, p, r, hw, q, t, b, hl, h1, h2, hr => by
    by_cases hb : t = j ∧ (ndT A q).inn.testBit j = true
    · exact ⟨(q, p.2), .inl rfl, hb.2⟩
    have ht : 1 ≤ trn A s q t ∧ trn A s q t ≤ j := by
      unfold trn
      by_cases hq : (ndT A q).inn.testBit t = true
      · have hne : t ≠ j := fun e => hb ⟨e, e ▸ hq⟩
        rw [if_pos ⟨by omega, hq⟩, Nat.mod_eq_of_lt (by omega)]
        omega
      · rw [if_neg (fun hh => hq hh.2)]
        exact ⟨h1, h2⟩
    match n, hw with
    | 0, ⟨z1, e, z2⟩ =>
      obtain ⟨c, _, hlc⟩ := h.down e hl
      have := (h.fn _ _ _ _ _ hlc hr).2
      omega
    | n + 1, ⟨u, z1, e, hw⟩ =>
      obtain ⟨c, e2, hlc⟩ := h.down e hl
      obtain ⟨d, w3, hd⟩ := h.meets hj hw hlc ht.1 ht.2 hr
      exact ⟨d, .inr ((Way.one ⟨_, _, hl, z1⟩ e2 ⟨_, _, hlc, hw.fst⟩).trans0 w3), hd⟩
theorem Prd.good_down (h : Prd A B s L) {i q t k : Nat} (hl : L i q t) (hg : GoodP B w (i, k)) : GoodP A w (q, k) := by
  obtain ⟨Z, hi, hc, hz⟩ := hg
  refine ⟨DownZ L Z, fun p ⟨i, t, hl, hz⟩ => ⟨(h.inb _ _ _ hl).2.1, (hi _ hz).2⟩, fun p ⟨i, t, hl, hz⟩ => ?_, i, t, hl, hz⟩
  obtain ⟨⟨r, n, hw⟩, hs⟩ := hc _ hz
  obtain ⟨b, u, hwd, _⟩ := h.way_down hw hl
  refine ⟨⟨_, n, hwd⟩, fun j hj => ?_⟩
  rw [h.hA] at hj
  obtain ⟨x1, ⟨n1, w1⟩, b1⟩ := hs 0 (by rw [h.hB]; omega)
  obtain ⟨c1, u1, v1, l1⟩ := h.way_down w1 hl
  have a1 := (h.inn _ _ _ l1).1 b1
  obtain ⟨rfl, a2⟩ : u1 = 0 ∧ (ndT A c1).inn.testBit 0 = true := by
    rcases a1 with h1 | h1
    · omega
    · exact h1
  by_cases h0 : j = 0
  · subst h0
    exact ⟨_, ⟨n1, v1⟩, a2⟩
  obtain ⟨x2, w2, b2⟩ := (hc _ w1.lst).2 0 (by rw [h.hB]; omega)
  obtain ⟨_, y, e, zy, hy⟩ := w2.cases
  obtain ⟨c2, e2, l2⟩ := h.down e l1
  have ht : trn A s c1 0 = 1 := by unfold trn; rw [if_pos ⟨by omega, a2⟩, Nat.mod_eq_of_lt (by omega)]
  rw [ht] at l2
  have hx2 : ∀ c u, L x2.1 c u → u = 0 := fun c u hl => by
    rcases (h.inn _ _ _ hl).1 b2 with h1 | h1
    · omega
    · exact h1.1
  rcases hy with rfl | ⟨n3, w3⟩
  · have := hx2 _ _ l2
    omega
  obtain ⟨c3, u3, _, l3⟩ := h.way_down w3 l2
  have hu := hx2 _ _ l3
  subst hu
  obtain ⟨d, w4, hd⟩ := h.meets hj w3 l2 (Nat.le_refl _) (by omega) l3
  exact ⟨d, Way.trans ⟨n1, v1⟩ ((Way.one ⟨_, _, l1, w1.lst⟩ e2 ⟨_, _, l2, zy⟩).trans0 w4), hd⟩
/-- they take the same words -/
theorem Prd.takes (h : Prd A B s L) : TakesP A w ↔ TakesP B w := by
  constructor
  · rintro ⟨q, hq, hr, hg⟩
    obtain ⟨x, hx, hl⟩ := h.ini1 q hq
    exact ⟨x, hx, by rw [Int.toNat_natCast, h.reads hl]; exact hr, by rw [Int.toNat_natCast]; exact h.good_up hl hg⟩
  · rintro ⟨x, hx, hr, hg⟩
    obtain ⟨q, hq, hl⟩ := h.ini2 x hx
    exact ⟨q, hq, by rw [← h.reads hl]; exact hr, h.good_down hl hg⟩
end
end Go.Proofs.Ytefplklkhcpchaa
