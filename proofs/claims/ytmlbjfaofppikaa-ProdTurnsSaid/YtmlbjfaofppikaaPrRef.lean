/- The document's product: its small parts. Conditions: a product that the document's New tells. -/
import Derived.Test.YtmlbjfaofppikaaPrEdge
import Derived.Laws.BitsAllLaws
namespace Go.Proofs.Ytmlbjfaofppikaa
open Go.RowKit

theorem not_bit (b i : Nat) (hb : b < 18446744073709551616) : (18446744073709551615 - b).testBit i = (decide (i < 64) && !b.testBit i) := by
  have h := Nat.testBit_two_pow_sub_succ (n := 64) (x := b) hb i
  rw [show (2 : Nat) ^ 64 - (b + 1) = 18446744073709551615 - b by omega] at h
  exact h
theorem big_bit {a i : Nat} (ha : a < 18446744073709551616) (h : a.testBit i = true) : i < 64 := by
  refine Nat.lt_of_not_le fun hi => ?_
  have : a.testBit i = false := Nat.testBit_lt_two_pow (Nat.lt_of_lt_of_le ha (by rw [show 18446744073709551616 = 2 ^ 64 from rfl]; exact Nat.pow_le_pow_right (by omega) hi))
  rw [this] at h
  cases h
theorem mask_not {a b m : Nat} (ha : a < 18446744073709551616) (hb : b < 18446744073709551616) : ((a &&& (18446744073709551615 - b)) &&& m = 0) ↔ ((a &&& b) &&& m = a &&& m) := by
  constructor
  · intro h
    apply Nat.eq_of_testBit_eq
    intro i
    have h1 := congrArg (fun n => n.testBit i) h
    simp only [Nat.testBit_and, Nat.zero_testBit, not_bit b i hb] at h1 ⊢
    cases h2 : a.testBit i with
    | false => simp
    | true =>
      have := big_bit ha h2
      rw [h2] at h1
      simp [this] at h1
      cases h3 : m.testBit i with
      | false => simp
      | true =>
        cases h4 : b.testBit i with
        | true => rfl
        | false => simp [h3, h4] at h1
  · intro h
    apply Nat.eq_of_testBit_eq
    intro i
    have h1 := congrArg (fun n => n.testBit i) h
    simp only [Nat.testBit_and, Nat.zero_testBit, not_bit b i hb] at h1 ⊢
    cases h2 : a.testBit i with
    | false => simp
    | true =>
      rw [h2] at h1
      cases h3 : m.testBit i with
      | false => simp
      | true =>
        rw [h3] at h1
        cases h4 : b.testBit i with
        | true => simp
        | false => rw [h4] at h1; cases h1
theorem all_and {a : Nat} (ha : a < 18446744073709551616) : a &&& 18446744073709551615 = a := by
  rw [show 18446744073709551615 = 2 ^ 64 - 1 from rfl, Nat.and_two_pow_sub_one_eq_mod]
  exact Nat.mod_eq_of_lt ha
theorem and_not {a b : Nat} (ha : a < 18446744073709551616) (hb : b < 18446744073709551616) : (a &&& (18446744073709551615 - b) = 0) ↔ (a &&& b = a) := by
  have h := mask_not (m := 18446744073709551615) ha hb
  rwa [all_and (Nat.lt_of_le_of_lt Nat.and_le_left ha), all_and (Nat.lt_of_le_of_lt Nat.and_le_left ha), all_and ha] at h
theorem andNot_test {a b : Nat} (ha : a < 18446744073709551616) (hb : b < 18446744073709551616) : (bits .andNot .u64 (a : Int) (b : Int) == 0) = (a &&& b == a) := by
  rw [u64_andNot_nat a b ha hb]
  by_cases h : a &&& b = a
  · rw [(and_not ha hb).2 h]
    simp [h]
  · have h2 : ¬ a &&& (18446744073709551615 - b) = 0 := fun e => h ((and_not ha hb).1 e)
    have e1 : (a &&& b == a) = false := by simpa using h
    rw [e1]
    simp only [beq_eq_false_iff_ne]
    omega
abbrev TRP : Nat := 40
abbrev TRq : Nat := 55
/-- where a product's parts lie -/
structure RX where
  ai : Option Addr
  ae : Option Addr
  al : Option Addr
  as_ : Option Addr
  bi : Option Addr
  bn : Option Addr
  ci : Nat
  ce : Nat
  cl : Nat
  cs : Nat
  di : Nat
  dn : Nat
abbrev gv (X : RX) (G : GR) : Value := .agg #[.slice X.ai G.init.length X.ci, .slice X.ae G.edges.length X.ce, .slice X.al G.labels.length X.cl]
abbrev av (X : RX) (A : AU) : Value := .agg #[.int .i64 A.sets, .slice X.bi A.init.length X.di, .slice X.bn A.nodes.length X.dn]
abbrev rpc (X : RX) (G : GR) (sets : List (List Bool)) (A : AU) : List Value := [.slice X.ai G.init.length X.ci, .slice X.ae G.edges.length X.ce, .slice X.al G.labels.length X.cl, .slice X.as_ sets.length X.cs, .int .i64 A.sets, .slice X.bi A.init.length X.di, .slice X.bn A.nodes.length X.dn]
abbrev rpv (X : RX) (G : GR) (sets : List (List Bool)) (A : AU) : Value := .agg #[.slice X.ai G.init.length X.ci, .slice X.ae G.edges.length X.ce, .slice X.al G.labels.length X.cl, .slice X.as_ sets.length X.cs, .int .i64 A.sets, .slice X.bi A.init.length X.di, .slice X.bn A.nodes.length X.dn]
structure RpA (w : World) (X : RX) (G : GR) (sets : List (List Bool)) (A : AU) : Prop where
  g : GAt w X.ai X.ae X.al G
  s : SetsAt w X.as_ sets
  au : AuAt w X.bi A.init.length X.bn A.nodes.length A
  src : srcB G sets = true
  chk : chk A = 0
  ok : GOk G
  aok : AuOk A
  lt : Lt G sets A
theorem RpA.below {w w' : World} {X : RX} {G : GR} {sets : List (List Bool)} {A : AU} (h : RpA w X G sets A) (hb : Below w.heap.size w w') : RpA w' X G sets A :=
  ⟨h.g.below hb, h.s.below hb, h.au.below hb, h.src, h.chk, h.ok, h.aok, h.lt⟩
theorem rall_any (w : World) (X : RX) (G : GR) (sets : List (List Bool)) (A : AU) (h : RpA w X G sets A) :
    Calls Try.prog 43 #[rpv X G sets A] w fun e w' => e = .returned (.int .i64 (allS sets A)) ∧ Below w.heap.size w w' := by
  obtain ⟨s0, s16, _⟩ := chk_sets h.chk
  obtain ⟨_, t16, _⟩ := src_sets h.src
  obtain ⟨S, hS⟩ := Int.eq_ofNat_of_zero_le s0
  have hall : Hid ((allS sets A : Int) = (S : Int) + (sets.length : Int)) := by show _ = _; unfold allS; rw [hS]; push_cast; rfl
  have hr : Hid (IntKind.i64.wrap ((S : Int) + (sets.length : Int)) = (allS sets A : Int)) := by show _ = _; rw [hall.out]; exact IntWalk.i64_in _ (by omega)
  obtain ⟨st, ini, nds⟩ := A
  simp only at hS s0 s16
  subst hS
  have hb := balloc (Below.refl w.heap.size w) (.cells #[.slice X.ai G.init.length X.ci, .slice X.ae G.edges.length X.ce, .slice X.al G.labels.length X.cl, .slice X.as_ sets.length X.cs, .int .i64 S, .slice X.bi ini.length X.di, .slice X.bn nds.length X.dn] TRP)
  have hs16 : (S : Int) ≤ 16 := by omega
  have ht16 : (sets.length : Int) ≤ 16 := by omega
  clear h s0 s16
  go_enter Try.func43, Try.ntmps43
  go_wp2
  go_ret
  exact ⟨by rw [hall.out]; rfl, hb⟩
theorem rlabel_any (w : World) (X : RX) (G : GR) (sets : List (List Bool)) (A : AU) (h : RpA w X G sets A) (x : Int) :
    Calls Try.prog 40 #[rpv X G sets A, .int .i64 x] w fun e w' => e = .returned (.int .u64 (labP G x)) ∧ Below w.heap.size w w' := by
  have hll := (gchk_good (src_sets h.src).1).2.1
  have hb := balloc (Below.refl w.heap.size w) (.cells #[.slice X.ai G.init.length X.ci, .slice X.ae G.edges.length X.ce, .slice X.al G.labels.length X.cl, .slice X.as_ sets.length X.cs, .int .i64 A.sets, .slice X.bi A.init.length X.di, .slice X.bn A.nodes.length X.dn] TRP)
  by_cases h0 : x < 0
  · have hr : Hid (labP G x = 0) := by show _ = _; unfold labP; rw [inG_no h0]; rfl
    rw [hr.out]
    clear h hll
    go_enter Try.func40, Try.ntmps40
    go_wp2
    go_ret
    exact ⟨rfl, hb⟩
  · obtain ⟨k, rfl⟩ := Int.eq_ofNat_of_zero_le (show 0 ≤ x by omega)
    by_cases h1 : k < G.labels.length
    · have hr : Hid (((labP G k : Nat) : Int) = (natI G.labels).getD k 0) := by show _ = _; unfold labP; rw [inG_yes (by omega), decide_eq_true (show (k : Int) < (G.edges.length : Int) by omega), natI_at]; rfl
      obtain ⟨b, off, y, ha, cy, hy⟩ := (h.g.labels.below hb).at k (by rw [natI_len]; omega)
      have hr2 : Hid (((labP G k : Nat) : Int) = y) := by show _ = _; rw [hr.out, hy.out]
      rw [hr2.out]
      obtain ⟨ai, ae, al, as_, bi, bn, ci, ce, cl, cs, di, dn⟩ := X
      simp only at ha hb cy ⊢
      subst ha
      have hk2 : (k : Int) < (G.labels.length : Int) := by omega
      clear h hr hy hll
      go_enter Try.func40, Try.ntmps40
      go_wp2
      go_ret
      exact ⟨rfl, hb⟩
    · have hr : Hid (labP G k = 0) := by show _ = _; unfold labP; rw [inG_yes (by omega), decide_eq_false (show ¬ (k : Int) < (G.edges.length : Int) by omega)]; rfl
      rw [hr.out]
      clear h hll
      go_enter Try.func40, Try.ntmps40
      go_wp2
      go_ret
      exact ⟨rfl, hb⟩
theorem and_comm_beq (a b : Nat) : (a &&& b == a) = (b &&& a == a) := by rw [Nat.and_comm]
set_option maxHeartbeats 1000000 in
theorem rreads_any (w : World) (X : RX) (A : AU) (h : AuAt w X.bi A.init.length X.bn A.nodes.length A) (aok : AuOk A) (k : Nat) (hk : k < A.nodes.length) (lab : Nat) (hl : lab < 18446744073709551616) :
    Calls Try.prog 39 #[av X A, .int .i64 k, .int .u64 lab] w fun e w' => e = .returned (.bool (readsB (nodeP A k) lab)) ∧ Below w.heap.size w w' := by
  have hb := balloc (Below.refl w.heap.size w) (.cells #[.int .i64 A.sets, .slice X.bi A.init.length X.di, .slice X.bn A.nodes.length X.dn] 30)
  obtain ⟨b, off, ha, n0, n1, n2, a3, x3, n3, _⟩ := (h.nodes.below hb).at k hk
  obtain ⟨u0, u1, u2, _⟩ := aok.nodes _ (List.getElem_mem hk)
  rw [nodeP_at hk]
  generalize A.nodes[k] = x at n0 n1 n2 n3 u0 u1 u2 ⊢
  have q1 := andNot_test u0 hl
  have q2 := and_zero u1 hl
  have hr : Hid (readsB x lab = ((x.need &&& lab == x.need) && (x.ban &&& lab == 0))) := by show _ = _; unfold readsB; rw [Nat.and_comm lab, Nat.and_comm lab]
  generalize (x.need &&& lab == x.need) = b1 at q1 hr
  generalize (x.ban &&& lab == 0) = b2 at q2 hr
  rw [hr.out]
  obtain ⟨xn, xb, xi, xt⟩ := x
  simp only at q1 q2 n0 n1 n2 n3
  have hk2 : (k : Int) < (A.nodes.length : Int) := by omega
  obtain ⟨ai, ae, al, as_, bi, bn, ci, ce, cl, cs, di, dn⟩ := X
  simp only at ha hb n0 n1 n2 n3 ⊢
  subst ha
  replace u0 := Lib.hid u0
  clear h hr u0 u1 u2 hl
  cases b1 with
  | false =>
    go_enter Try.func39, Try.ntmps39
    go_wp2
    go_ret
    exact ⟨rfl, hb⟩
  | true =>
    go_enter Try.func39, Try.ntmps39
    go_wp2
    go_ret
    exact ⟨rfl, hb⟩
end Go.Proofs.Ytmlbjfaofppikaa
