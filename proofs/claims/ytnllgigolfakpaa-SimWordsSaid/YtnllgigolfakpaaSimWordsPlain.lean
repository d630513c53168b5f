/- What a node takes all take that can do what it can: plain. No conditions. -/
import Derived.Test.YtnllgigolfakpaaSimPlain
import Derived.Test.YtnllgigolfakpaaTakesP
namespace Go.Proofs.Ytnllgigolfakpaa

theorem and_sub {a b u : Nat} (h1 : b &&& a = b) (h2 : a &&& u = a) : b &&& u = b := by
  rw [← h1, Nat.and_assoc, h2]
theorem and_none {a b u : Nat} (h1 : b &&& a = b) (h2 : a &&& u = 0) : b &&& u = 0 := by
  rw [← h1, Nat.and_assoc, h2, Nat.and_zero]
/-- what can do what a node can reads what it reads -/
theorem alo_reads {s : Nat} {x y : AN} (h : aloB s x y = true) {u : Nat} (hr : rdB x u = true) : rdB y u = true := by
  unfold aloB at h
  unfold rdB at hr ⊢
  simp only [Bool.and_eq_true, beq_iff_eq] at h hr ⊢
  exact ⟨and_sub h.1 hr.1, and_none h.2.1 hr.2⟩
theorem alo_sets {s : Nat} {x y : AN} (h : aloB s x y = true) {i : Nat} (hi : i < s) (hx : x.inn.testBit i = true) : y.inn.testBit i = true := by
  unfold aloB at h
  simp only [Bool.and_eq_true, beq_iff_eq] at h
  have e := congrArg (fun n => n.testBit i) h.2.2
  simp only [Nat.testBit_and, Nat.testBit_two_pow_sub_one, hx, hi] at e
  simpa using e
/-- those that can do what one of Z can -/
def Liftd (A : AU) (w : WD) (R : Nat → Nat → Bool) (Z : PN → Prop) (p : PN) : Prop := p.1 < A.nodes.length ∧ p.2 < w.len ∧ rdB (nd A p.1) (w.at p.2) = true ∧ ∃ j, j < A.nodes.length ∧ R j p.1 = true ∧ Z (j, p.2)
theorem nd_ndT (A : AU) (i : Nat) : ndT A i = nd A i := rfl
theorem lift_step {A : AU} (hc : chk A = 0) {w : WD} {R : Nat → Nat → Bool} (hR : IsSim A R) {Z : PN → Prop} (hi : Inside A w Z) {p q : PN} (he : PE A w p q) (hq : Z q) {k : Nat} (hp : p.1 < A.nodes.length) (hk : k < A.nodes.length) (hr : R p.1 k = true) :
    ∃ k', PE A w (k, p.2) (k', q.2) ∧ k' < A.nodes.length ∧ R q.1 k' = true ∧ Liftd A w R Z (k', q.2) := by
  obtain ⟨e1, e2, e3, e4⟩ := he
  obtain ⟨a1, a2⟩ := hR _ _ hp hk hr
  unfold folB at a2
  rw [List.all_eq_true] at a2
  have h1 := a2 _ e2
  rw [List.any_eq_true] at h1
  obtain ⟨u, hu, h2⟩ := h1
  obtain ⟨u1, u2⟩ := nd_to hc hk u hu
  obtain ⟨v, rfl⟩ := Int.eq_ofNat_of_zero_le u1
  simp only [Int.toNat_natCast] at h2
  have hv : v < A.nodes.length := by omega
  obtain ⟨b1, _⟩ := hR _ _ (hi _ hq).1 hv h2
  exact ⟨v, ⟨alo_reads a1 e1, hu, e3, alo_reads b1 e4⟩, hv, h2, hv, (hi _ hq).2, alo_reads b1 e4, q.1, (hi _ hq).1, h2, hq⟩
theorem lift_way {A : AU} (hc : chk A = 0) {w : WD} {R : Nat → Nat → Bool} (hR : IsSim A R) {Z : PN → Prop} (hi : Inside A w Z) : ∀ {n : Nat} {p q : PN}, WayN (PE A w) Z n p q → ∀ {k : Nat}, k < A.nodes.length → R p.1 k = true → Liftd A w R Z (k, p.2) → ∃ k', WayN (PE A w) (Liftd A w R Z) n (k, p.2) (k', q.2) ∧ k' < A.nodes.length ∧ R q.1 k' = true
  | 0, p, q, ⟨h1, h2, h3⟩, k, hk, hr, hl => by
    obtain ⟨k', e, hk', hr', hl'⟩ := lift_step hc hR hi h2 h3 (hi _ h1).1 hk hr
    exact ⟨k', ⟨hl, e, hl'⟩, hk', hr'⟩
  | n + 1, p, q, ⟨r, h1, h2, h3⟩, k, hk, hr, hl => by
    obtain ⟨k', e, hk', hr', hl'⟩ := lift_step hc hR hi h2 h3.fst (hi _ h1).1 hk hr
    obtain ⟨k2, w2, hk2, hr2⟩ := lift_way hc hR hi h3 hk' hr' hl'
    exact ⟨k2, ⟨_, hl, e, w2⟩, hk2, hr2⟩
theorem sim_good {A : AU} (hc : chk A = 0) {w : WD} {R : Nat → Nat → Bool} (hR : IsSim A R) {i k m : Nat} (hk : k < A.nodes.length) (hr : R i k = true) (h : GoodP A w (i, m)) : GoodP A w (k, m) ∧ rdB (nd A k) (w.at m) = true := by
  obtain ⟨Z, hi, hcl, hz⟩ := h
  have hin := (hi _ hz).1
  have hrk := alo_reads (hR _ _ hin hk hr).1 (hcl.reads hz)
  refine ⟨⟨Liftd A w R Z, fun p hp => ⟨hp.1, hp.2.1⟩, fun p hp => ?_, hk, (hi _ hz).2, hrk, i, hin, hr, hz⟩, hrk⟩
  obtain ⟨p1, p2, p3, j, hj, hrj, hzj⟩ := hp
  obtain ⟨⟨q, n, hq⟩, hs⟩ := hcl _ hzj
  refine ⟨?_, fun t ht => ?_⟩
  · obtain ⟨k', hw, _⟩ := lift_way hc hR hi hq p1 hrj ⟨p1, p2, p3, j, hj, hrj, hzj⟩
    exact ⟨_, n, hw⟩
  · obtain ⟨q, ⟨n, hq⟩, hb⟩ := hs t ht
    obtain ⟨k', hw, hk', hr'⟩ := lift_way hc hR hi hq p1 hrj ⟨p1, p2, p3, j, hj, hrj, hzj⟩
    exact ⟨_, ⟨n, hw⟩, alo_sets (hR _ _ (hi _ hq.lst).1 hk' hr').1 ht hb⟩
end Go.Proofs.Ytnllgigolfakpaa
