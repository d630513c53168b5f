/- The document's product: its small parts. Conditions: a product that the document's New tells. The document's add: a pair behind others, if it is not among them. Conditions: a bound. The document's Right. Conditions: a product that the document's New tells. The document's is: whether a pair is of a set. Conditions: a product that the document's New tells. -/
import Derived.Test.YtfcpfcgcfaacnaaSPrNext
import Derived.Laws.BitsAllLaws
namespace Go.Proofs.Ytfcpfcgcfaacnaa
open Go.RowKit
theorem not_bit (b i : Nat) (hb : b < 18446744073709551616) : (18446744073709551615 - b).testBit i = (decide (i < 64) && !b.testBit i) := by
 have h := Nat.testBit_two_pow_sub_succ (n := 64) (x := b) hb i
 rw [show (2 : Nat) ^ 64 - (b + 1) = 18446744073709551615 - b by omega] at h
 exact h
theorem big_bit {a i : Nat} (ha : a < 18446744073709551616) (h : a.testBit i = true) : i < 64 := by
 refine Nat.lt_of_not_le fun hi => ?_
 have : a.testBit i = false := Nat.testBit_lt_two_pow (Nat.lt_of_lt_of_le ha (by rw [show 18446744073709551616 = 2 ^ 64 from rfl]; exact Nat.pow_le_pow_right (by omega) hi))
 rw [this] at h
 cases h
theorem mask_not {a b m : Nat} (ha : a < 18446744073709551616) (hb : b < 18446744073709551616) : ((a &&& (18446744073709551615 - b)) &&& m = 0) ↔ ((a &&& b) &&& m = a &&& m) := by
 constructor
 ·intro h
  apply Nat.eq_of_testBit_eq
  intro i
  have h1 := congrArg (fun n => n.testBit i) h
  simp only [Nat.testBit_and, Nat.zero_testBit, not_bit b i hb] at h1 ⊢
  cases h2 : a.testBit i with
  | false => simp
  | true =>
   have := big_bit ha h2
   rw [h2] at h1
   simp [this] at h1
   cases h3 : m.testBit i with
   | false => simp
   | true =>
    cases h4 : b.testBit i with
    | true => rfl
    | false => simp [h3, h4] at h1
 ·intro h
  apply Nat.eq_of_testBit_eq
  intro i
  have h1 := congrArg (fun n => n.testBit i) h
  simp only [Nat.testBit_and, Nat.zero_testBit, not_bit b i hb] at h1 ⊢
  cases h2 : a.testBit i with
  | false => simp
  | true =>
   rw [h2] at h1
   cases h3 : m.testBit i with
   | false => simp
   | true =>
    rw [h3] at h1
    cases h4 : b.testBit i with
    | true => simp
    | false => rw [h4] at h1; cases h1
theorem all_and {a : Nat} (ha : a < 18446744073709551616) : a &&& 18446744073709551615 = a := by
 rw [show 18446744073709551615 = 2 ^ 64 - 1 from rfl, Nat.and_two_pow_sub_one_eq_mod]
 exact Nat.mod_eq_of_lt ha
theorem and_not {a b : Nat} (ha : a < 18446744073709551616) (hb : b < 18446744073709551616) : (a &&& (18446744073709551615 - b) = 0) ↔ (a &&& b = a) := by
 have h := mask_not (m := 18446744073709551615) ha hb
 rwa [all_and (Nat.lt_of_le_of_lt Nat.and_le_left ha), all_and (Nat.lt_of_le_of_lt Nat.and_le_left ha), all_and ha] at h
theorem andNot_test {a b : Nat} (ha : a < 18446744073709551616) (hb : b < 18446744073709551616) : (bits .andNot .u64 (a : Int) (b : Int) == 0) = (a &&& b == a) := by
 rw [u64_andNot_nat a b ha hb]
 by_cases h : a &&& b = a
 ·rw [(and_not ha hb).2 h]
  simp [h]
 ·have h2 : ¬ a &&& (18446744073709551615 - b) = 0 := fun e => h ((and_not ha hb).1 e)
  have e1 : (a &&& b == a) = false := by simpa using h
  rw [e1]
  simp only [beq_eq_false_iff_ne]
  omega
abbrev TRP : Nat := 38
abbrev TRq : Nat := 69
structure RX where
 ai : Option Addr
 ae : Option Addr
 al : Option Addr
 as_ : Option Addr
 bi : Option Addr
 bn : Option Addr
 ci : Nat
 ce : Nat
 cl : Nat
 cs : Nat
 di : Nat
 dn : Nat
abbrev gv (X : RX) (G : GR) : Value := .agg #[.slice X.ai G.init.length X.ci, .slice X.ae G.edges.length X.ce, .slice X.al G.labels.length X.cl]
abbrev av (X : RX) (A : AU) : Value := .agg #[.int .i64 A.sets, .slice X.bi A.init.length X.di, .slice X.bn A.nodes.length X.dn]
abbrev rpv (X : RX) (G : GR) (sets : List (List Bool)) (A : AU) : Value := .agg #[.slice X.ai G.init.length X.ci, .slice X.ae G.edges.length X.ce, .slice X.al G.labels.length X.cl, .slice X.as_ sets.length X.cs, .int .i64 A.sets, .slice X.bi A.init.length X.di, .slice X.bn A.nodes.length X.dn]
structure RpA (w : World) (X : RX) (G : GR) (sets : List (List Bool)) (A : AU) : Prop where
 g : GAt w X.ai X.ae X.al G
 s : SetsAt w X.as_ sets
 au : AuAt w X.bi A.init.length X.bn A.nodes.length A
 src : srcB G sets = true
 chk : chk A = 0
 ok : GOk G
 aok : AuOk A
 lt : Lt G sets A
theorem RpA.below {w w' : World} {X : RX} {G : GR} {sets : List (List Bool)} {A : AU} (h : RpA w X G sets A) (hb : Below w.heap.size w w') : RpA w' X G sets A :=
 ⟨h.g.below hb, h.s.below hb, h.au.below hb, h.src, h.chk, h.ok, h.aok, h.lt⟩
theorem rall_any (w : World) (X : RX) (G : GR) (sets : List (List Bool)) (A : AU) (h : RpA w X G sets A) :
  Calls Try.prog 54 #[rpv X G sets A] w fun e w' => e = .returned (.int .i64 (allS sets A)) ∧ Below w.heap.size w w' := by
 obtain ⟨s0, s16, _⟩ := chk_sets h.chk
 obtain ⟨_, t16, _⟩ := src_sets h.src
 obtain ⟨S, hS⟩ := Int.eq_ofNat_of_zero_le s0
 have hall : Hid ((allS sets A : Int) = (S : Int) + (sets.length : Int)) := by show _ = _; unfold allS; rw [hS]; push_cast; rfl
 have hr : Hid (IntKind.i64.wrap ((S : Int) + (sets.length : Int)) = (allS sets A : Int)) := by show _ = _; rw [hall.out]; exact IntWalk.i64_in _ (by omega)
 obtain ⟨st, ini, nds⟩ := A
 simp only at hS s0 s16
 subst hS
 have hb := balloc (Below.refl w.heap.size w) (.cells #[.slice X.ai G.init.length X.ci, .slice X.ae G.edges.length X.ce, .slice X.al G.labels.length X.cl, .slice X.as_ sets.length X.cs, .int .i64 S, .slice X.bi ini.length X.di, .slice X.bn nds.length X.dn] TRP)
 have hs16 : (S : Int) ≤ 16 := by omega
 have ht16 : (sets.length : Int) ≤ 16 := by omega
 clear h s0 s16
 go_enter Try.func54, Try.ntmps54
 go_wp2
 go_ret
 exact ⟨by rw [hall.out]; rfl, hb⟩
theorem rlabel_any (w : World) (X : RX) (G : GR) (sets : List (List Bool)) (A : AU) (h : RpA w X G sets A) (x : Int) :
  Calls Try.prog 51 #[rpv X G sets A, .int .i64 x] w fun e w' => e = .returned (.int .u64 (labP G x)) ∧ Below w.heap.size w w' := by
 have hll := (gchk_good (src_sets h.src).1).2.1
 have hb := balloc (Below.refl w.heap.size w) (.cells #[.slice X.ai G.init.length X.ci, .slice X.ae G.edges.length X.ce, .slice X.al G.labels.length X.cl, .slice X.as_ sets.length X.cs, .int .i64 A.sets, .slice X.bi A.init.length X.di, .slice X.bn A.nodes.length X.dn] TRP)
 by_cases h0 : x < 0
 ·have hr : Hid (labP G x = 0) := by show _ = _; unfold labP; rw [inG_no h0]; rfl
  rw [hr.out]
  clear h hll
  go_enter Try.func51, Try.ntmps51
  go_wp2
  go_ret
  exact ⟨rfl, hb⟩
 ·obtain ⟨k, rfl⟩ := Int.eq_ofNat_of_zero_le (show 0 ≤ x by omega)
  by_cases h1 : k < G.labels.length
  ·have hr : Hid (((labP G k : Nat) : Int) = (natI G.labels).getD k 0) := by show _ = _; unfold labP; rw [inG_yes (by omega), decide_eq_true (show (k : Int) < (G.edges.length : Int) by omega), natI_at]; rfl
   obtain ⟨b, off, y, ha, cy, hy⟩ := (h.g.labels.below hb).at k (by rw [natI_len]; omega)
   have hr2 : Hid (((labP G k : Nat) : Int) = y) := by show _ = _; rw [hr.out, hy.out]
   rw [hr2.out]
   obtain ⟨ai, ae, al, as_, bi, bn, ci, ce, cl, cs, di, dn⟩ := X
   simp only at ha hb cy ⊢
   subst ha
   have hk2 : (k : Int) < (G.labels.length : Int) := by omega
   clear h hr hy hll
   go_enter Try.func51, Try.ntmps51
   go_wp2
   go_ret
   exact ⟨rfl, hb⟩
  ·have hr : Hid (labP G k = 0) := by show _ = _; unfold labP; rw [inG_yes (by omega), decide_eq_false (show ¬ (k : Int) < (G.edges.length : Int) by omega)]; rfl
   rw [hr.out]
   clear h hll
   go_enter Try.func51, Try.ntmps51
   go_wp2
   go_ret
   exact ⟨rfl, hb⟩
set_option maxHeartbeats 1000000 in
theorem rreads_any (w : World) (X : RX) (A : AU) (h : AuAt w X.bi A.init.length X.bn A.nodes.length A) (aok : AuOk A) (k : Nat) (hk : k < A.nodes.length) (lab : Nat) (hl : lab < 18446744073709551616) :
  Calls Try.prog 50 #[av X A, .int .i64 k, .int .u64 lab] w fun e w' => e = .returned (.bool (readsB (nodeP A k) lab)) ∧ Below w.heap.size w w' := by
 have hb := balloc (Below.refl w.heap.size w) (.cells #[.int .i64 A.sets, .slice X.bi A.init.length X.di, .slice X.bn A.nodes.length X.dn] 30)
 obtain ⟨b, off, ha, n0, n1, n2, a3, x3, n3, _⟩ := (h.nodes.below hb).at k hk
 obtain ⟨u0, u1, u2, _⟩ := aok.nodes _ (List.getElem_mem hk)
 rw [nodeP_at hk]
 generalize A.nodes[k] = x at n0 n1 n2 n3 u0 u1 u2 ⊢
 have q1 := andNot_test u0 hl
 have q2 := and_zero u1 hl
 have hr : Hid (readsB x lab = ((x.need &&& lab == x.need) && (x.ban &&& lab == 0))) := by show _ = _; unfold readsB; rw [Nat.and_comm lab, Nat.and_comm lab]
 generalize (x.need &&& lab == x.need) = b1 at q1 hr
 generalize (x.ban &&& lab == 0) = b2 at q2 hr
 rw [hr.out]
 obtain ⟨xn, xb, xi, xt⟩ := x
 simp only at q1 q2 n0 n1 n2 n3
 have hk2 : (k : Int) < (A.nodes.length : Int) := by omega
 obtain ⟨ai, ae, al, as_, bi, bn, ci, ce, cl, cs, di, dn⟩ := X
 simp only at ha hb n0 n1 n2 n3 ⊢
 subst ha
 replace u0 := Lib.hid u0
 clear h hr u0 u1 u2 hl
 cases b1 with
 | false =>
  go_enter Try.func50, Try.ntmps50
  go_wp2
  go_ret
  exact ⟨rfl, hb⟩
 | true =>
  go_enter Try.func50, Try.ntmps50
  go_wp2
  go_ret
  exact ⟨rfl, hb⟩
end Go.Proofs.Ytfcpfcgcfaacnaa
namespace Go.Proofs.Ytfcpfcgcfaacnaa
open Go.RowKit
theorem infoRq : (Try.prog.info? TRq).map (fun i => (i.zero, i.size, i.bytes)) = some (some (.agg #[.int .i64 0, .int .i64 0, .int .i64 0]), 3, 24) := by kernel_rfl
def Added (w : World) (B : Nat) (a : Option Addr) (n c : Nat) (l : List PP) (e : Ending) (w' : World) : Prop :=
 ∃ a' c', e = .returned (.slice a' l.length c') ∧ OwnQ w' B TRq a' c' l ∧ Keeps w w' (fun j => (Value.slice a n c).ownBlock = some j) ∧ Hid (∀ j, (Value.slice a' l.length c').ownBlock = some j → (Value.slice a n c).ownBlock = some j ∨ w.heap.size ≤ j)
set_option maxHeartbeats 2000000 in
theorem radd_any (w : World) (B : Nat) (hB : B ≤ w.heap.size) (a : Option Addr) (c : Nat) (l : List PP) (h : OwnQ w B TRq a c l) (x : PP) (hl : l.length ≤ 1000000) :
  Calls Try.prog 52 #[.slice a l.length c, ppv x] w (Added w B a l.length c (addP l x)) := by
 obtain ⟨q, s, t⟩ := x
 have r3 : RowAt (w.alloc (.cells #[.int .i64 q, .int .i64 s, .int .i64 t] TRq)) w.heap.size TRq [.int .i64 q, .int .i64 s, .int .i64 t] := RowAt.new #[.int .i64 q, .int .i64 s, .int .i64 t] rfl
 have hb1 : Below w.heap.size w (w.alloc (.cells #[.int .i64 q, .int .i64 s, .int .i64 t] TRq)) := balloc (Below.refl _ _) _
 have h1 : OwnQ (w.alloc (.cells #[.int .i64 q, .int .i64 s, .int .i64 t] TRq)) B TRq a c l := OwnR.alloc h _
 replace h1 := Lib.hid h1
 have hB1 := Lib.hid (Nat.le_trans hB hb1.size)
 clear h hB
 go_enter Try.func52, Try.ntmps52
 go_wp2
 obtain ⟨w1, hw1⟩ : ∃ w1, w1 = w.alloc (.cells #[.int .i64 q, .int .i64 s, .int .i64 t] TRq) := ⟨_, rfl⟩
 rw [← hw1] at r3 hb1 h1 hB1
 change Code.wp _ _ _ _ (w.alloc (.cells #[.int .i64 q, .int .i64 s, .int .i64 t] TRq))
 rw [← hw1]
 clear hw1
 have b0 : w1.cell? ⟨w.heap.size, 0, none⟩ = some (.int .i64 q) := r3.cell 0
 have b1 : w1.cell? ⟨w.heap.size, 1, none⟩ = some (.int .i64 s) := r3.cell 1
 have b2 : w1.cell? ⟨w.heap.size, 2, none⟩ = some (.int .i64 t) := r3.cell 2
 replace hb1 := Lib.hid hb1
 replace r3 := Lib.hid r3
 go_loopw [4, 5] (fun zv iv wr => ∃ k m : Nat, zv = .slice none 0 0 ∧ k ≤ l.length ∧ iv = .int .i64 k ∧ wr = w1.drewN m ∧ Hid ((⟨q, s, t⟩ : PP) ∉ l.take k)) (fun _ iv _ => l.length - (intOf iv).toNat)
 case atStart => exact ⟨0, 0, rfl, Nat.zero_le _, rfl, rfl, by simp [Hid]⟩
 case round =>
  obtain ⟨k, m, rfl, hk, rfl, rfl, hn⟩ := hrel
  by_cases hlt : k < l.length
  ·obtain ⟨g, hab, _, hgl, c0, c1, c2⟩ := OwnQ.at h1.out k hlt
   have hst : Hid ((⟨q, s, t⟩ : PP) ≠ l[k] → (⟨q, s, t⟩ : PP) ∉ l.take (k + 1)) := fun hne => by
    rw [List.take_add_one, List.getElem?_eq_getElem hlt, Option.toList_some, List.mem_append, not_or]
    exact ⟨hn.out, by simpa using hne⟩
   have hyes : Hid ((⟨q, s, t⟩ : PP) = l[k] → (⟨q, s, t⟩ : PP) ∈ l) := fun he => by rw [he]; exact List.getElem_mem hlt
   generalize l[k] = p at c0 c1 c2 hst hyes
   obtain ⟨x, y, z⟩ := p
   simp only at c0 c1 c2
   have hi2 : (k : Int) < (l.length : Int) := by omega
   subst hab
   clear hn
   by_cases hx : x = q
   ·subst hx
    by_cases hy : y = s
    ·subst hy
     by_cases hz : z = t
     ·subst hz
      have hm := Lib.hid (hyes.out rfl)
      clear hst hyes
      go_wp2
      go_quiet (fail)
      go_wp2
      go_ret
      have e : addP l ⟨x, y, z⟩ = l := by unfold addP; rw [if_pos hm.out]
      rw [e]
      have hbq : Below w1.heap.size w1 (w1.drewN (m + nq)) := bdrewN (Below.refl _ _) _
      rw [World.drewN_drewN]
      exact ⟨_, _, rfl, OwnR.keeps (S := fun _ => False) h1.out (Keeps.of_below hbq) (fun _ _ h => h), Keeps.of_below (btrans hb1.out hbq), fun j hj => .inl hj⟩
     ·have hzb : (z == t) = false := by simpa using hz
      have hst2 : Hid ((⟨x, y, t⟩ : PP) ∉ l.take (k + 1)) := hst.out (fun e => hz (by cases e; rfl))
      clear hst hyes hz
      go_wp2
      go_quiet (fail)
      go_wp2
      go_roundw
      case rel => exact ⟨k + 1, _, rfl, by omega, by go_num, by first | rfl | exact World.drewN_drewN _ _ _, hst2⟩
      case measure => simp [intOf]; omega
    ·have hyb : (y == s) = false := by simpa using hy
     have hst2 : Hid ((⟨x, s, t⟩ : PP) ∉ l.take (k + 1)) := hst.out (fun e => hy (by cases e; rfl))
     clear hst hyes hy
     go_wp2
     go_quiet (fail)
     go_wp2
     go_roundw
     case rel => exact ⟨k + 1, _, rfl, by omega, by go_num, by first | rfl | exact World.drewN_drewN _ _ _, hst2⟩
     case measure => simp [intOf]; omega
   ·have hxb : (x == q) = false := by simpa using hx
    have hst2 : Hid ((⟨q, s, t⟩ : PP) ∉ l.take (k + 1)) := hst.out (fun e => hx (by cases e; rfl))
    clear hst hyes hx
    go_wp2
    go_quiet (fail)
    go_wp2
    go_roundw
    case rel => exact ⟨k + 1, _, rfl, by omega, by go_num, by first | rfl | exact World.drewN_drewN _ _ _, hst2⟩
    case measure => simp [intOf]; omega
  ·obtain rfl : k = l.length := by omega
   rw [List.take_length] at hn
   have hbq : Below w1.heap.size w1 (w1.drewN m) := bdrewN (Below.refl _ _) _
   have h2 : OwnQ (w1.drewN m) B TRq a c l := OwnR.keeps (S := fun _ => False) h1.out (Keeps.of_below hbq) (fun _ _ h => h)
   have d0 : (w1.drewN m).cell? ⟨w.heap.size, 0, none⟩ = some (.int .i64 q) := b0
   have d1 : (w1.drewN m).cell? ⟨w.heap.size, 1, none⟩ = some (.int .i64 s) := b1
   have d2 : (w1.drewN m).cell? ⟨w.heap.size, 2, none⟩ = some (.int .i64 t) := b2
   have hB2 : B ≤ (w1.drewN m).heap.size := Nat.le_trans hB1.out hbq.size
   have hb2 := btrans hb1.out hbq
   generalize w1.drewN m = w2 at h2 d0 d1 d2 hB2 hb2 ⊢
   have hz2 := hb2.size
   replace h2 := Lib.hid h2
   replace hb2 := Lib.hid hb2
   have hZ := balloc (Below.refl w2.heap.size w2) (.cells #[.int .i64 q, .int .i64 s, .int .i64 t] TRq)
   have hB4 : Hid (B ≤ (w2.alloc (.cells #[.int .i64 q, .int .i64 s, .int .i64 t] TRq)).heap.size) := Nat.le_trans hB2 hZ.size
   replace hZ := Lib.hid hZ
   clear b0 b1 b2 h1 hbq
   go_wp2_with (at_builtin; refine wp_appR rfl _ _ 52 TRq (.agg #[.int .i64 0, .int .i64 0, .int .i64 0]) 3 24 rfl Try.underlying52 infoRq rfl (by decide) B a l.length c (qcells l) rfl (OwnR.alloc h2.out _) w2.heap.size 1 [.int .i64 q, .int .i64 s, .int .i64 t] rfl rfl (new_cells w2 #[.int .i64 q, .int .i64 s, .int .i64 t] TRq rfl) (by intro u hu; simp at hu; rcases hu with rfl | rfl | rfl <;> rfl) (by unfold maxLen; omega) (by omega) hB4.out ?_)
   intro a' c' w4 ho4 hg4 hat4
   have e : addP l ⟨q, s, t⟩ = l ++ [⟨q, s, t⟩] := by unfold addP; rw [if_neg hn.out]
   have el : (l ++ [(⟨q, s, t⟩ : PP)]).length = l.length + 1 := by simp
   have K4 : Keeps w w4 (fun j => (Value.slice a l.length c).ownBlock = some j) := ((Keeps.of_below hb2.out).trans (Keeps.alloc w2 _ (fun j => (Value.slice a l.length c).ownBlock = some j)) (fun _ _ h => h)).trans (Keeps.of_grown (S := fun j => (Value.slice a l.length c).ownBlock = some j) hg4 (fun j e => e)) (fun _ _ h => h)
   have hfr : Hid (∀ j, (Value.slice a' (l.length + 1) c').ownBlock = some j → (Value.slice a l.length c).ownBlock = some j ∨ w.heap.size ≤ j) := by
    intro j hj
    rcases hat4 with h | h
    ·exact .inl (by rw [← h]; exact hj)
    ·rw [h] at hj
     simp at hj
     exact .inr (by omega)
   have ho : OwnQ w4 B TRq a' c' (l ++ [⟨q, s, t⟩]) := by
    unfold OwnQ
    rw [el, qcells_snoc]
    exact ho4
   replace ho := Lib.hid ho
   replace K4 := Lib.hid K4
   replace el := Lib.hid el
   replace e := Lib.hid e
   clear ho4 hg4 hat4
   go_wp2
   go_ret
   rw [e.out]
   exact ⟨a', c', by rw [el.out]; rfl, ho.out, K4.out, by rw [el.out]; exact hfr⟩
end Go.Proofs.Ytfcpfcgcfaacnaa
namespace Go.Proofs.Ytfcpfcgcfaacnaa
open Go.RowKit
set_option maxHeartbeats 2000000 in
theorem rright_any (w : World) (X : RX) (G : GR) (sets : List (List Bool)) (A : AU) (h : RpA w X G sets A) (x : PP) :
  Calls Try.prog 53 #[rpv X G sets A, ppv x] w fun e w' => e = .returned (.bool (isP sets A x)) ∧ Below w.heap.size w w' := by
 obtain ⟨s0, s16, _⟩ := chk_sets h.chk
 obtain ⟨_, t16, _⟩ := src_sets h.src
 have hall : allS sets A ≤ 40 := by unfold allS; omega
 have r1 := RowAt.new (w := w) (T := TRP) #[.slice X.ai G.init.length X.ci, .slice X.ae G.edges.length X.ce, .slice X.al G.labels.length X.cl, .slice X.as_ sets.length X.cs, .int .i64 A.sets, .slice X.bi A.init.length X.di, .slice X.bn A.nodes.length X.dn] rfl
 have r2 := RowAt.new (w := w.alloc (.cells #[.slice X.ai G.init.length X.ci, .slice X.ae G.edges.length X.ce, .slice X.al G.labels.length X.cl, .slice X.as_ sets.length X.cs, .int .i64 A.sets, .slice X.bi A.init.length X.di, .slice X.bn A.nodes.length X.dn] TRP)) (T := TRq) #[.int .i64 x.node, .int .i64 x.state, .int .i64 x.turn] rfl
 have r1' := r1.alloc (.cells #[.int .i64 x.node, .int .i64 x.state, .int .i64 x.turn] TRq)
 have hb2 := balloc (balloc (Below.refl w.heap.size w) (.cells #[.slice X.ai G.init.length X.ci, .slice X.ae G.edges.length X.ce, .slice X.al G.labels.length X.cl, .slice X.as_ sets.length X.cs, .int .i64 A.sets, .slice X.bi A.init.length X.di, .slice X.bn A.nodes.length X.dn] TRP)) (.cells #[.int .i64 x.node, .int .i64 x.state, .int .i64 x.turn] TRq)
 have hz1 : (w.alloc (.cells #[.slice X.ai G.init.length X.ci, .slice X.ae G.edges.length X.ce, .slice X.al G.labels.length X.cl, .slice X.as_ sets.length X.cs, .int .i64 A.sets, .slice X.bi A.init.length X.di, .slice X.bn A.nodes.length X.dn] TRP)).heap.size = w.heap.size + 1 := by simp
 rw [hz1] at r2
 have AL := Lib.hid (fun wr (hb : Below w.heap.size w wr) => rall_any wr X G sets A (h.below hb))
 obtain ⟨xn, xs, xt⟩ := x
 simp only at r1' r2 hb2
 obtain ⟨w2, hw2⟩ : ∃ w2, (w.alloc (.cells #[.slice X.ai G.init.length X.ci, .slice X.ae G.edges.length X.ce, .slice X.al G.labels.length X.cl, .slice X.as_ sets.length X.cs, .int .i64 A.sets, .slice X.bi A.init.length X.di, .slice X.bn A.nodes.length X.dn] TRP)).alloc (.cells #[.int .i64 xn, .int .i64 xs, .int .i64 xt] TRq) = w2 := ⟨_, rfl⟩
 rw [hw2] at r1' r2 hb2
 obtain ⟨m, hm⟩ : ∃ m, m = allS sets A := ⟨_, rfl⟩
 rw [← hm] at AL hall
 have hres : Hid (isP sets A ⟨xn, xs, xt⟩ = (inG A.nodes.length xs && inG (max m 1) xt)) := by show _ = _; rw [hm]; rfl
 rw [hres.out]
 have c0 : w2.cell? ⟨w.heap.size, 0, none⟩ = some (.slice X.ai G.init.length X.ci) := r1'.cell 0
 have c1 : w2.cell? ⟨w.heap.size, 1, none⟩ = some (.slice X.ae G.edges.length X.ce) := r1'.cell 1
 have c2 : w2.cell? ⟨w.heap.size, 2, none⟩ = some (.slice X.al G.labels.length X.cl) := r1'.cell 2
 have c3 : w2.cell? ⟨w.heap.size, 3, none⟩ = some (.slice X.as_ sets.length X.cs) := r1'.cell 3
 have c4 : w2.cell? ⟨w.heap.size, 4, none⟩ = some (.int .i64 A.sets) := r1'.cell 4
 have c5 : w2.cell? ⟨w.heap.size, 5, none⟩ = some (.slice X.bi A.init.length X.di) := r1'.cell 5
 have c6 : w2.cell? ⟨w.heap.size, 6, none⟩ = some (.slice X.bn A.nodes.length X.dn) := r1'.cell 6
 have x1 : w2.cell? ⟨w.heap.size + 1, 1, none⟩ = some (.int .i64 xs) := r2.cell 1
 have x2 : w2.cell? ⟨w.heap.size + 1, 2, none⟩ = some (.int .i64 xt) := r2.cell 2
 replace hm := Lib.hid hm
 clear r1 r1' r2 h hz1 s0 s16 t16 hres
 by_cases h0 : xs < 0
 ·have h0' : decide (0 ≤ xs) = false := by simpa using h0
  rw [show (inG A.nodes.length xs && inG (max m 1) xt) = false by rw [inG_no h0]; rfl]
  go_enter Try.func53, Try.ntmps53
  go_wp2
  clear hw2
  go_quiet (fail)
  go_wp2
  go_ret
  exact ⟨rfl, bdrewN hb2 _⟩
 have h0' : decide (0 ≤ xs) = true := by simpa using h0
 rw [inG_yes (show 0 ≤ xs by omega)]
 by_cases h1 : xs < (A.nodes.length : Int)
 ·have h1' : decide (xs < (A.nodes.length : Int)) = true := by simpa using h1
  rw [h1', Bool.true_and]
  by_cases h2 : xt < 0
  ·have h2' : decide (0 ≤ xt) = false := by simpa using h2
   rw [inG_no h2]
   go_enter Try.func53, Try.ntmps53
   go_wp2
   clear hw2
   go_quiet (fail)
   go_wp2
   go_ret
   exact ⟨rfl, bdrewN hb2 _⟩
  ·have h2' : decide (0 ≤ xt) = true := by simpa using h2
   rw [inG_yes (show 0 ≤ xt by omega)]
   obtain ⟨t, rfl⟩ := Int.eq_ofNat_of_zero_le (show 0 ≤ xt by omega)
   have SB : Hid (∀ w', Below w2.heap.size w2 w' → w'.cell? ⟨w.heap.size, 0, none⟩ = some (.slice X.ai G.init.length X.ci) ∧ w'.cell? ⟨w.heap.size, 1, none⟩ = some (.slice X.ae G.edges.length X.ce) ∧ w'.cell? ⟨w.heap.size, 2, none⟩ = some (.slice X.al G.labels.length X.cl) ∧ w'.cell? ⟨w.heap.size, 3, none⟩ = some (.slice X.as_ sets.length X.cs) ∧ w'.cell? ⟨w.heap.size, 4, none⟩ = some (.int .i64 A.sets) ∧ w'.cell? ⟨w.heap.size, 5, none⟩ = some (.slice X.bi A.init.length X.di) ∧ w'.cell? ⟨w.heap.size, 6, none⟩ = some (.slice X.bn A.nodes.length X.dn) ∧ w'.cell? ⟨w.heap.size + 1, 1, none⟩ = some (.int .i64 xs) ∧ w'.cell? ⟨w.heap.size + 1, 2, none⟩ = some (.int .i64 t)) := fun w' hb => ⟨bcell hb c0, bcell hb c1, bcell hb c2, bcell hb c3, bcell hb c4, bcell hb c5, bcell hb c6, bcell hb x1, bcell hb x2⟩
   have K : ∀ (b1 b2 : Bool), decide (t < m) = b1 → (b1 = false → ((t : Int) == 0) = b2) → decide ((t : Int) < ((max m 1 : Nat) : Int)) = (b1 || (!b1 && b2)) := by
    intro b1 b2 e1 e2
    cases b1 with
    | true =>
     rw [decide_eq_true_eq] at e1
     rw [decide_eq_true (by omega)]
     rfl
    | false =>
     rw [decide_eq_false_iff_not] at e1
     have e2 := e2 rfl
     cases b2 with
     | true =>
      have : t = 0 := by simpa using e2
      rw [decide_eq_true (by omega)]
      rfl
     | false =>
      have : t ≠ 0 := by simpa using e2
      rw [decide_eq_false (by omega)]
      rfl
   obtain ⟨b1, hb1⟩ : ∃ b1, decide (t < m) = b1 := ⟨_, rfl⟩
   obtain ⟨b2, hb2'⟩ : ∃ b2, ((t : Int) == 0) = b2 := ⟨_, rfl⟩
   rw [K b1 b2 hb1 (fun _ => hb2')]
   clear K h2 h1 h0
   replace hb2 := Lib.hid hb2
   cases b1 with
   | true =>
    go_enter Try.func53, Try.ntmps53
    go_wp2
    clear hw2
    refine wp_region_held_drew (S := (fun w' => w'.cell? ⟨w.heap.size, 0, none⟩ = some (.slice X.ai G.init.length X.ci) ∧ w'.cell? ⟨w.heap.size, 1, none⟩ = some (.slice X.ae G.edges.length X.ce) ∧ w'.cell? ⟨w.heap.size, 2, none⟩ = some (.slice X.al G.labels.length X.cl) ∧ w'.cell? ⟨w.heap.size, 3, none⟩ = some (.slice X.as_ sets.length X.cs) ∧ w'.cell? ⟨w.heap.size, 4, none⟩ = some (.int .i64 A.sets) ∧ w'.cell? ⟨w.heap.size, 5, none⟩ = some (.slice X.bi A.init.length X.di) ∧ w'.cell? ⟨w.heap.size, 6, none⟩ = some (.slice X.bn A.nodes.length X.dn) ∧ w'.cell? ⟨w.heap.size + 1, 1, none⟩ = some (.int .i64 xs) ∧ w'.cell? ⟨w.heap.size + 1, 2, none⟩ = some (.int .i64 t))) (by kernel_rfl) (SB.out _ (Below.refl _ _).drew) (fun hHeld => ?_)
    refine wpAnyH_take (i := 0) (oi := ({ dst := some 5, op := .fieldAddr 69 (.tmp 3) 1, type := 0, pos := "ref.go:61", after := #[], guard := none } : Oper)) (v := ?_) rfl (by kernel_rfl) (by kernel_rfl) (by kernel_rfl) (fun _ _ _ h => h) (Or.inl ⟨by rfl, ?_⟩) (by assumption) ?_
    case refine_2 => (intro w hSw; (try dsimp only at hSw); go_simp; try with_reducible rfl)
    try simp only [Act.put, zsA, zsZ, zsS]
    refine wpAnyH_take (i := 1) (oi := ({ dst := some 6, op := .load 3 (.tmp 5), type := 3, pos := "ref.go:61", after := #[{ on := 0, ground := .data }], guard := none } : Oper)) (v := ?_) rfl (by kernel_rfl) (by kernel_rfl) (by kernel_rfl) (fun _ _ _ h => h) (Or.inl ⟨by rfl, ?_⟩) (by assumption) ?_
    case refine_2 => (intro w hSw; (try dsimp only at hSw); go_simp; try with_reducible rfl)
    try simp only [Act.put, zsA, zsZ, zsS]
    refine wpAnyH_take (i := 2) (oi := ({ dst := some 7, op := .binOp .geq 3 (.tmp 6) (.const (.int .i64 0)) 3, type := 4, pos := "ref.go:61", after := #[{ on := 1, ground := .data }], guard := none } : Oper)) (v := ?_) rfl (by kernel_rfl) (by kernel_rfl) (by kernel_rfl) (fun _ _ _ h => h) (Or.inl ⟨by rfl, ?_⟩) (by assumption) ?_
    case refine_2 => (intro w hSw; (try dsimp only at hSw); go_simp; try with_reducible rfl)
    try simp only [Act.put, zsA, zsZ, zsS]
    refine wpAnyH_take (i := 3) (oi := ({ dst := some 8, op := .move (.tmp 7), type := 4, pos := "ref.go:61", after := #[{ on := 2, ground := .data }], guard := none } : Oper)) (v := ?_) rfl (by kernel_rfl) (by kernel_rfl) (by kernel_rfl) (fun _ _ _ h => h) (Or.inl ⟨by rfl, ?_⟩) (by assumption) ?_
    case refine_2 => (intro w hSw; (try dsimp only at hSw); go_simp; try with_reducible rfl)
    try simp only [Act.put, zsA, zsZ, zsS]
    refine wpAnyH_take (i := 4) (oi := ({ dst := some 9, op := .fieldAddr 69 (.tmp 3) 1, type := 0, pos := "ref.go:61", after := #[{ on := 3, ground := .guard }], guard := some (3, true) } : Oper)) (v := ?_) rfl (by kernel_rfl) (by kernel_rfl) (by kernel_rfl) (fun _ _ _ h => h) (Or.inl ⟨by rfl, ?_⟩) (by assumption) ?_
    case refine_2 => (intro w hSw; (try dsimp only at hSw); go_simp; try with_reducible rfl)
    try simp only [Act.put, zsA, zsZ, zsS]
    refine wpAnyH_take (i := 5) (oi := ({ dst := some 10, op := .load 3 (.tmp 9), type := 3, pos := "ref.go:61", after := #[{ on := 4, ground := .data }, { on := 3, ground := .guard }], guard := some (3, true) } : Oper)) (v := ?_) rfl (by kernel_rfl) (by kernel_rfl) (by kernel_rfl) (fun _ _ _ h => h) (Or.inl ⟨by rfl, ?_⟩) (by assumption) ?_
    case refine_2 => (intro w hSw; (try dsimp only at hSw); go_simp; try with_reducible rfl)
    try simp only [Act.put, zsA, zsZ, zsS]
    refine wpAnyH_take (i := 6) (oi := ({ dst := some 11, op := .fieldAddr 38 (.tmp 2) 2, type := 0, pos := "ref.go:61", after := #[{ on := 3, ground := .guard }], guard := some (3, true) } : Oper)) (v := ?_) rfl (by kernel_rfl) (by kernel_rfl) (by kernel_rfl) (fun _ _ _ h => h) (Or.inl ⟨by rfl, ?_⟩) (by assumption) ?_
    case refine_2 => (intro w hSw; (try dsimp only at hSw); go_simp; try with_reducible rfl)
    try simp only [Act.put, zsA, zsZ, zsS]
    refine wpAnyH_take (i := 7) (oi := ({ dst := some 12, op := .fieldAddr 30 (.tmp 11) 2, type := 0, pos := "ref.go:61", after := #[{ on := 6, ground := .data }, { on := 3, ground := .guard }], guard := some (3, true) } : Oper)) (v := ?_) rfl (by kernel_rfl) (by kernel_rfl) (by kernel_rfl) (fun _ _ _ h => h) (Or.inl ⟨by rfl, ?_⟩) (by assumption) ?_
    case refine_2 => (intro w hSw; (try dsimp only at hSw); go_simp; try with_reducible rfl)
    try simp only [Act.put, zsA, zsZ, zsS]
    refine wpAnyH_take (i := 8) (oi := ({ dst := some 13, op := .load 28 (.tmp 12), type := 28, pos := "ref.go:61", after := #[{ on := 7, ground := .data }, { on := 3, ground := .guard }], guard := some (3, true) } : Oper)) (v := ?_) rfl (by kernel_rfl) (by kernel_rfl) (by kernel_rfl) (fun _ _ _ h => h) (Or.inl ⟨by rfl, ?_⟩) (by assumption) ?_
    case refine_2 => (intro w hSw; (try dsimp only at hSw); go_simp; try with_reducible rfl)
    try simp only [Act.put, zsA, zsZ, zsS]
    refine wpAnyH_take (i := 9) (oi := ({ dst := some 14, op := .call { callee := .builtin .len, args := #[.tmp 13], argTypes := #[28] }, type := 3, pos := "ref.go:61", after := #[{ on := 8, ground := .data }, { on := 3, ground := .guard }], guard := some (3, true) } : Oper)) (v := ?_) rfl (by kernel_rfl) (by kernel_rfl) (by kernel_rfl) (fun _ _ _ h => h) (Or.inl ⟨by rfl, ?_⟩) (by assumption) ?_
    case refine_2 => (intro w hSw; (try dsimp only at hSw); go_simp; try with_reducible rfl)
    try simp only [Act.put, zsA, zsZ, zsS]
    refine wpAnyH_take (i := 10) (oi := ({ dst := some 15, op := .binOp .lss 3 (.tmp 10) (.tmp 14) 3, type := 4, pos := "ref.go:61", after := #[{ on := 5, ground := .data }, { on := 9, ground := .data }, { on := 3, ground := .guard }], guard := some (3, true) } : Oper)) (v := ?_) rfl (by kernel_rfl) (by kernel_rfl) (by kernel_rfl) (fun _ _ _ h => h) (Or.inl ⟨by rfl, ?_⟩) (by assumption) ?_
    case refine_2 => (intro w hSw; (try dsimp only at hSw); go_simp; try with_reducible rfl)
    try simp only [Act.put, zsA, zsZ, zsS]
    refine wpAnyH_take (i := 11) (oi := ({ dst := some 16, op := .pick (.tmp 8) (.tmp 15) (.const (.bool false)), type := 4, pos := "ref.go:61", after := #[{ on := 3, ground := .data }, { on := 10, ground := .data }], guard := none } : Oper)) (v := ?_) rfl (by kernel_rfl) (by kernel_rfl) (by kernel_rfl) (fun _ _ _ h => h) (Or.inl ⟨by rfl, ?_⟩) (by assumption) ?_
    case refine_2 => (intro w hSw; (try dsimp only at hSw); go_simp; try with_reducible rfl)
    try simp only [Act.put, zsA, zsZ, zsS]
    refine wpAnyH_take (i := 12) (oi := ({ dst := some 17, op := .move (.tmp 16), type := 4, pos := "ref.go:61", after := #[{ on := 11, ground := .data }, { on := 3, ground := .chain }], guard := none } : Oper)) (v := ?_) rfl (by kernel_rfl) (by kernel_rfl) (by kernel_rfl) (fun _ _ _ h => h) (Or.inl ⟨by rfl, ?_⟩) (by assumption) ?_
    case refine_2 => (intro w hSw; (try dsimp only at hSw); go_simp; try with_reducible rfl)
    try simp only [Act.put, zsA, zsZ, zsS]
    refine wpAnyH_take (i := 13) (oi := ({ dst := some 18, op := .fieldAddr 69 (.tmp 3) 2, type := 0, pos := "ref.go:61", after := #[{ on := 12, ground := .guard }], guard := some (12, true) } : Oper)) (v := ?_) rfl (by kernel_rfl) (by kernel_rfl) (by kernel_rfl) (fun _ _ _ h => h) (Or.inl ⟨by rfl, ?_⟩) (by assumption) ?_
    case refine_2 => (intro w hSw; (try dsimp only at hSw); go_simp; try with_reducible rfl)
    try simp only [Act.put, zsA, zsZ, zsS]
    refine wpAnyH_take (i := 14) (oi := ({ dst := some 19, op := .load 3 (.tmp 18), type := 3, pos := "ref.go:61", after := #[{ on := 13, ground := .data }, { on := 12, ground := .guard }], guard := some (12, true) } : Oper)) (v := ?_) rfl (by kernel_rfl) (by kernel_rfl) (by kernel_rfl) (fun _ _ _ h => h) (Or.inl ⟨by rfl, ?_⟩) (by assumption) ?_
    case refine_2 => (intro w hSw; (try dsimp only at hSw); go_simp; try with_reducible rfl)
    try simp only [Act.put, zsA, zsZ, zsS]
    refine wpAnyH_take (i := 15) (oi := ({ dst := some 20, op := .binOp .geq 3 (.tmp 19) (.const (.int .i64 0)) 3, type := 4, pos := "ref.go:61", after := #[{ on := 14, ground := .data }, { on := 12, ground := .guard }], guard := some (12, true) } : Oper)) (v := ?_) rfl (by kernel_rfl) (by kernel_rfl) (by kernel_rfl) (fun _ _ _ h => h) (Or.inl ⟨by rfl, ?_⟩) (by assumption) ?_
    case refine_2 => (intro w hSw; (try dsimp only at hSw); go_simp; try with_reducible rfl)
    try simp only [Act.put, zsA, zsZ, zsS]
    refine wpAnyH_take (i := 16) (oi := ({ dst := some 21, op := .pick (.tmp 17) (.tmp 20) (.const (.bool false)), type := 4, pos := "ref.go:61", after := #[{ on := 12, ground := .data }, { on := 15, ground := .data }], guard := none } : Oper)) (v := ?_) rfl (by kernel_rfl) (by kernel_rfl) (by kernel_rfl) (fun _ _ _ h => h) (Or.inl ⟨by rfl, ?_⟩) (by assumption) ?_
    case refine_2 => (intro w hSw; (try dsimp only at hSw); go_simp; try with_reducible rfl)
    try simp only [Act.put, zsA, zsZ, zsS]
    refine wpAnyH_take (i := 17) (oi := ({ dst := some 22, op := .move (.tmp 21), type := 4, pos := "ref.go:61", after := #[{ on := 16, ground := .data }, { on := 12, ground := .chain }], guard := none } : Oper)) (v := ?_) rfl (by kernel_rfl) (by kernel_rfl) (by kernel_rfl) (fun _ _ _ h => h) (Or.inl ⟨by rfl, ?_⟩) (by assumption) ?_
    case refine_2 => (intro w hSw; (try dsimp only at hSw); go_simp; try with_reducible rfl)
    try simp only [Act.put, zsA, zsZ, zsS]
    refine wpAnyH_take (i := 18) (oi := ({ dst := some 23, op := .fieldAddr 69 (.tmp 3) 2, type := 0, pos := "ref.go:61", after := #[{ on := 17, ground := .guard }], guard := some (17, true) } : Oper)) (v := ?_) rfl (by kernel_rfl) (by kernel_rfl) (by kernel_rfl) (fun _ _ _ h => h) (Or.inl ⟨by rfl, ?_⟩) (by assumption) ?_
    case refine_2 => (intro w hSw; (try dsimp only at hSw); go_simp; try with_reducible rfl)
    try simp only [Act.put, zsA, zsZ, zsS]
    refine wpAnyH_take (i := 19) (oi := ({ dst := some 24, op := .load 3 (.tmp 23), type := 3, pos := "ref.go:61", after := #[{ on := 18, ground := .data }, { on := 17, ground := .guard }], guard := some (17, true) } : Oper)) (v := ?_) rfl (by kernel_rfl) (by kernel_rfl) (by kernel_rfl) (fun _ _ _ h => h) (Or.inl ⟨by rfl, ?_⟩) (by assumption) ?_
    case refine_2 => (intro w hSw; (try dsimp only at hSw); go_simp; try with_reducible rfl)
    try simp only [Act.put, zsA, zsZ, zsS]
    refine wpAnyH_take (i := 20) (oi := ({ dst := some 25, op := .load 38 (.tmp 2), type := 38, pos := "ref.go:61", after := #[{ on := 17, ground := .guard }], guard := some (17, true) } : Oper)) (v := ?_) rfl (by kernel_rfl) (by kernel_rfl) (by kernel_rfl) (fun _ _ _ h => h) (Or.inl ⟨by rfl, ?_⟩) (by assumption) ?_
    case refine_2 => (intro w hSw; (try dsimp only at hSw); go_simp; try with_reducible rfl)
    try simp only [Act.put, zsA, zsZ, zsS]
    refine wpAnyH_ready (rs := [21]) (by kernel_rfl) (by simp) ?_
    refine AllReadyH.cons (o := ({ dst := some 26, op := .call { callee := .value (.func 54), args := #[.tmp 25], argTypes := #[38] }, type := 3, pos := "ref.go:61", after := #[{ on := 20, ground := .data }, { on := 17, ground := .chain }, { on := 17, ground := .guard }], guard := some (17, true) } : Oper)) rfl (fun K hK => ?_) AllReadyH.nil
    go_simp
    go_at_call 54
    (with_reducible refine (AL.out _ hb2.out.drew).mono ?_)
    rintro e w3 ⟨rfl, hb3⟩
    have B1 : Below w2.heap.size w2 w3 := btrans (Below.refl _ _).drew hb3
    clear hHeld
    refine hK.out _ _ (SB.out _ B1) (fun hHeld => ?_)
    clear hK K
    try simp only [Act.put, zsA, zsZ, zsS]
    refine wpAnyH_take (i := 22) (oi := ({ dst := some 27, op := .binOp .lss 3 (.tmp 24) (.tmp 26) 3, type := 4, pos := "ref.go:61", after := #[{ on := 19, ground := .data }, { on := 21, ground := .data }, { on := 17, ground := .guard }], guard := some (17, true) } : Oper)) (v := ?_) rfl (by kernel_rfl) (by kernel_rfl) (by kernel_rfl) (fun _ _ _ h => h) (Or.inl ⟨by rfl, ?_⟩) (by assumption) ?_
    case refine_2 => (intro w hSw; (try dsimp only at hSw); go_simp; try with_reducible rfl)
    try simp only [Act.put, zsA, zsZ, zsS]
    refine wpAnyH_take (i := 23) (oi := ({ dst := some 28, op := .move (.tmp 27), type := 4, pos := "ref.go:61", after := #[{ on := 22, ground := .data }, { on := 21, ground := .chain }, { on := 17, ground := .guard }], guard := some (17, true) } : Oper)) (v := ?_) rfl (by kernel_rfl) (by kernel_rfl) (by kernel_rfl) (fun _ _ _ h => h) (Or.inl ⟨by rfl, ?_⟩) (by assumption) ?_
    case refine_2 => (intro w hSw; (try dsimp only at hSw); go_simp; try with_reducible rfl)
    try simp only [Act.put, zsA, zsZ, zsS]
    refine wpAnyH_take (i := 24) (oi := ({ dst := some 29, op := .fieldAddr 69 (.tmp 3) 2, type := 0, pos := "ref.go:61", after := #[{ on := 23, ground := .guard }], guard := some (23, false) } : Oper)) (v := undef) rfl (by kernel_rfl) (by kernel_rfl) (by kernel_rfl) (fun _ _ _ h => h) (Or.inr ⟨by rfl, rfl⟩) (by assumption) ?_
    try simp only [Act.put, zsA, zsZ, zsS]
    refine wpAnyH_take (i := 25) (oi := ({ dst := some 30, op := .load 3 (.tmp 29), type := 3, pos := "ref.go:61", after := #[{ on := 24, ground := .data }, { on := 23, ground := .guard }], guard := some (23, false) } : Oper)) (v := undef) rfl (by kernel_rfl) (by kernel_rfl) (by kernel_rfl) (fun _ _ _ h => h) (Or.inr ⟨by rfl, rfl⟩) (by assumption) ?_
    try simp only [Act.put, zsA, zsZ, zsS]
    refine wpAnyH_take (i := 26) (oi := ({ dst := some 31, op := .binOp .eql 3 (.tmp 30) (.const (.int .i64 0)) 3, type := 4, pos := "ref.go:61", after := #[{ on := 25, ground := .data }, { on := 23, ground := .guard }], guard := some (23, false) } : Oper)) (v := undef) rfl (by kernel_rfl) (by kernel_rfl) (by kernel_rfl) (fun _ _ _ h => h) (Or.inr ⟨by rfl, rfl⟩) (by assumption) ?_
    try simp only [Act.put, zsA, zsZ, zsS]
    refine wpAnyH_take (i := 27) (oi := ({ dst := some 32, op := .pick (.tmp 28) (.const (.bool true)) (.tmp 31), type := 4, pos := "ref.go:61", after := #[{ on := 23, ground := .data }, { on := 26, ground := .data }, { on := 17, ground := .guard }], guard := some (17, true) } : Oper)) (v := ?_) rfl (by kernel_rfl) (by kernel_rfl) (by kernel_rfl) (fun _ _ _ h => h) (Or.inl ⟨by rfl, ?_⟩) (by assumption) ?_
    case refine_2 => (intro w hSw; (try dsimp only at hSw); go_simp; try with_reducible rfl)
    try simp only [Act.put, zsA, zsZ, zsS]
    refine wpAnyH_take (i := 28) (oi := ({ dst := some 33, op := .pick (.tmp 22) (.tmp 32) (.const (.bool false)), type := 4, pos := "ref.go:61", after := #[{ on := 17, ground := .data }, { on := 27, ground := .data }], guard := none } : Oper)) (v := ?_) rfl (by kernel_rfl) (by kernel_rfl) (by kernel_rfl) (fun _ _ _ h => h) (Or.inl ⟨by rfl, ?_⟩) (by assumption) ?_
    case refine_2 => (intro w hSw; (try dsimp only at hSw); go_simp; try with_reducible rfl)
    try simp only [Act.put, zsA, zsZ, zsS]
    refine wpAnyH_take (i := 29) (oi := ({ dst := some 4, op := .assign (.tmp 33), type := 4, pos := "ref.go:61", after := #[{ on := 28, ground := .data }, { on := 23, ground := .chain }, { on := 0, ground := .phase }, { on := 1, ground := .phase }, { on := 2, ground := .phase }, { on := 3, ground := .phase }, { on := 4, ground := .phase }, { on := 5, ground := .phase }, { on := 6, ground := .phase }, { on := 7, ground := .phase }, { on := 8, ground := .phase }, { on := 9, ground := .phase }, { on := 10, ground := .phase }, { on := 11, ground := .phase }, { on := 12, ground := .phase }, { on := 13, ground := .phase }, { on := 14, ground := .phase }, { on := 15, ground := .phase }, { on := 16, ground := .phase }, { on := 17, ground := .phase }, { on := 18, ground := .phase }, { on := 19, ground := .phase }, { on := 20, ground := .phase }, { on := 21, ground := .phase }, { on := 22, ground := .phase }, { on := 23, ground := .phase }, { on := 24, ground := .phase }, { on := 25, ground := .phase }, { on := 26, ground := .phase }, { on := 27, ground := .phase }, { on := 28, ground := .phase }], guard := none } : Oper)) (v := ?_) rfl (by kernel_rfl) (by kernel_rfl) (by kernel_rfl) (fun _ _ _ h => h) (Or.inl ⟨by rfl, ?_⟩) (by assumption) ?_
    case refine_2 => (intro w hSw; (try dsimp only at hSw); go_simp; try with_reducible rfl)
    try simp only [Act.put, zsA, zsZ, zsS]
    refine wpAnyH_done (by kernel_rfl) ?_ _
    go_wp2
    go_ret
    exact ⟨rfl, btrans hb2.out B1⟩
   | false =>
    go_enter Try.func53, Try.ntmps53
    go_wp2
    clear hw2
    go_region_held3 (fun w' => w'.cell? ⟨w.heap.size, 0, none⟩ = some (.slice X.ai G.init.length X.ci) ∧ w'.cell? ⟨w.heap.size, 1, none⟩ = some (.slice X.ae G.edges.length X.ce) ∧ w'.cell? ⟨w.heap.size, 2, none⟩ = some (.slice X.al G.labels.length X.cl) ∧ w'.cell? ⟨w.heap.size, 3, none⟩ = some (.slice X.as_ sets.length X.cs) ∧ w'.cell? ⟨w.heap.size, 4, none⟩ = some (.int .i64 A.sets) ∧ w'.cell? ⟨w.heap.size, 5, none⟩ = some (.slice X.bi A.init.length X.di) ∧ w'.cell? ⟨w.heap.size, 6, none⟩ = some (.slice X.bn A.nodes.length X.dn) ∧ w'.cell? ⟨w.heap.size + 1, 1, none⟩ = some (.int .i64 xs) ∧ w'.cell? ⟨w.heap.size + 1, 2, none⟩ = some (.int .i64 t)) (first | exact SB.out _ B1 | exact SB.out _ (Below.refl _ _).drew | exact SB.out _ (Below.refl _ _)) (first
     | (go_at_call 54; (with_reducible refine (AL.out _ hb2.out.drew).mono ?_); rintro e w3 ⟨rfl, hb3⟩; have B1 : Below w2.heap.size w2 w3 := btrans (Below.refl _ _).drew hb3))
    go_wp2
    go_ret
    exact ⟨rfl, btrans hb2.out B1⟩
 ·have h1' : decide (xs < (A.nodes.length : Int)) = false := by simpa using h1
  rw [h1', Bool.false_and]
  go_enter Try.func53, Try.ntmps53
  go_wp2
  clear hw2
  go_quiet (fail)
  go_wp2
  go_ret
  exact ⟨rfl, bdrewN hb2 _⟩
end Go.Proofs.Ytfcpfcgcfaacnaa
namespace Go.Proofs.Ytfcpfcgcfaacnaa
open Go.RowKit
theorem bitsN_bit (sets : List (List Bool)) (i : Nat) : ∀ k j, (bitsN sets i k).testBit j = (decide (j < k) && (sets.getD j []).getD i false)
 | 0, j => by simp [bitsN]
 | k + 1, j => by
  have ih := bitsN_bit sets i k j
  simp only [bitsN]
  by_cases hjk : j = k
  ·subst hjk
   rw [decide_eq_true (by omega), Bool.true_and]
   have hz : (bitsN sets i j).testBit j = false := by rw [ih]; simp
   split
   ·rename_i h
    rw [Nat.testBit_or, hz, Nat.testBit_two_pow_self, h]; rfl
   ·rename_i h
    rw [hz]
    exact (Bool.eq_false_iff.2 h).symm
  ·have e : (if (sets.getD k []).getD i false = true then bitsN sets i k ||| 2 ^ k else bitsN sets i k).testBit j = (bitsN sets i k).testBit j := by
    split
    ·rw [Nat.testBit_or, Nat.testBit_two_pow_of_ne (fun h => hjk h.symm), Bool.or_false]
    ·rfl
   rw [e, ih]
   congr 1
   simp
   omega
theorem ofP_set {G : GR} {sets : List (List Bool)} {A : AU} {n st : Int} {S s : Nat} (hS : A.sets = S) (hs : s < sets.length) :
  ofP G sets A ⟨n, st, ((S + s : Nat) : Int)⟩ = (inG G.edges.length n && (sets.getD s []).getD n.toNat false) := by
 unfold ofP
 rw [if_neg (by show ¬ ((S + s : Nat) : Int) < A.sets; rw [hS]; push_cast; omega)]
 show bitB (inbP G sets n) _ = _
 rw [show (((S + s : Nat) : Int) - A.sets).toNat = s by rw [hS]; push_cast; omega]
 unfold bitB inbP
 cases hi : inG G.edges.length n with
 | false => simp
 | true =>
  have hi2 := hi
  unfold inG at hi2
  simp at hi2
  have hn : n.toNat < G.edges.length := by omega
  rw [if_pos rfl, Bool.true_and]
  unfold inbits
  rw [List.getD_eq_getElem?_getD, List.getElem?_map, List.getElem?_range hn]
  show (bitsN sets n.toNat sets.length).testBit s = _
  rw [bitsN_bit, decide_eq_true hs, Bool.true_and]
set_option maxHeartbeats 2000000 in
theorem ris_any (w : World) (X : RX) (G : GR) (sets : List (List Bool)) (A : AU) (h : RpA w X G sets A) (x : PP) (k s : Nat) (hk : k < A.nodes.length) (hxs : x.state = k) (hs : s < allS sets A) :
  Calls Try.prog 55 #[rpv X G sets A, ppv x, .int .i64 s] w fun e w' => e = .returned (.bool (ofP G sets A ⟨x.node, x.state, s⟩)) ∧ Below w.heap.size w w' := by
 obtain ⟨s0, s16, _⟩ := chk_sets h.chk
 obtain ⟨_, t16, hrow⟩ := src_sets h.src
 obtain ⟨S, hS⟩ := Int.eq_ofNat_of_zero_le s0
 have hall : allS sets A = S + sets.length := by unfold allS; rw [hS]; rfl
 rw [hall] at hs
 have r1 := RowAt.new (w := w) (T := TRP) #[.slice X.ai G.init.length X.ci, .slice X.ae G.edges.length X.ce, .slice X.al G.labels.length X.cl, .slice X.as_ sets.length X.cs, .int .i64 A.sets, .slice X.bi A.init.length X.di, .slice X.bn A.nodes.length X.dn] rfl
 have r2 := RowAt.new (w := w.alloc (.cells #[.slice X.ai G.init.length X.ci, .slice X.ae G.edges.length X.ce, .slice X.al G.labels.length X.cl, .slice X.as_ sets.length X.cs, .int .i64 A.sets, .slice X.bi A.init.length X.di, .slice X.bn A.nodes.length X.dn] TRP)) (T := TRq) #[.int .i64 x.node, .int .i64 x.state, .int .i64 x.turn] rfl
 have r1' := r1.alloc (.cells #[.int .i64 x.node, .int .i64 x.state, .int .i64 x.turn] TRq)
 have hb2 := balloc (balloc (Below.refl w.heap.size w) (.cells #[.slice X.ai G.init.length X.ci, .slice X.ae G.edges.length X.ce, .slice X.al G.labels.length X.cl, .slice X.as_ sets.length X.cs, .int .i64 A.sets, .slice X.bi A.init.length X.di, .slice X.bn A.nodes.length X.dn] TRP)) (.cells #[.int .i64 x.node, .int .i64 x.state, .int .i64 x.turn] TRq)
 have hz1 : (w.alloc (.cells #[.slice X.ai G.init.length X.ci, .slice X.ae G.edges.length X.ce, .slice X.al G.labels.length X.cl, .slice X.as_ sets.length X.cs, .int .i64 A.sets, .slice X.bi A.init.length X.di, .slice X.bn A.nodes.length X.dn] TRP)).heap.size = w.heap.size + 1 := by simp
 rw [hz1] at r2
 obtain ⟨xn, xs, xt⟩ := x
 simp only at hxs r1' r2 hb2
 subst hxs
 obtain ⟨w2, hw2⟩ : ∃ w2, (w.alloc (.cells #[.slice X.ai G.init.length X.ci, .slice X.ae G.edges.length X.ce, .slice X.al G.labels.length X.cl, .slice X.as_ sets.length X.cs, .int .i64 A.sets, .slice X.bi A.init.length X.di, .slice X.bn A.nodes.length X.dn] TRP)).alloc (.cells #[.int .i64 xn, .int .i64 k, .int .i64 xt] TRq) = w2 := ⟨_, rfl⟩
 rw [hw2] at r1' r2 hb2
 have c1 : w2.cell? ⟨w.heap.size, 1, none⟩ = some (.slice X.ae G.edges.length X.ce) := r1'.cell 1
 have c3 : w2.cell? ⟨w.heap.size, 3, none⟩ = some (.slice X.as_ sets.length X.cs) := r1'.cell 3
 have c4 : w2.cell? ⟨w.heap.size, 4, none⟩ = some (.int .i64 A.sets) := r1'.cell 4
 rw [hS] at c4
 have c6 : w2.cell? ⟨w.heap.size, 6, none⟩ = some (.slice X.bn A.nodes.length X.dn) := r1'.cell 6
 have x0 : w2.cell? ⟨w.heap.size + 1, 0, none⟩ = some (.int .i64 xn) := r2.cell 0
 have x1 : w2.cell? ⟨w.heap.size + 1, 1, none⟩ = some (.int .i64 k) := r2.cell 1
 have hs40 : (s : Int) ≤ 40 := by omega
 have hk2 : (k : Int) < (A.nodes.length : Int) := by omega
 by_cases hlt : s < S
 ·have hres : ofP G sets A ⟨xn, k, s⟩ = (nodeP A k).inn.testBit s := by
   unfold ofP
   rw [if_pos (by show (s : Int) < A.sets; rw [hS]; simp; omega)]
   simp [bitB]
  rw [hres, nodeP_at hk]
  have hd : decide (s < S) = true := by simpa using hlt
  obtain ⟨b, off, ha, n0, n1, n2, _⟩ := (h.au.nodes.below hb2).at k hk
  have u2 := (h.aok.nodes _ (List.getElem_mem hk)).2.2.1
  generalize A.nodes[k] = nd at n0 n1 n2 u2 ⊢
  have q := bit_test (s := s) u2
  generalize nd.inn.testBit s = r at q
  generalize nd.inn = u at n2 q u2
  have hk3 : (k : Int) < (A.nodes.length : Int) := hk2
  replace hS := Lib.hid hS
  clear h hall hres s0 s16 t16 hrow r1 r1' r2 hz1 hlt hs c1 c3 x0
  obtain ⟨ai, ae, al, as_, bi, bn, ci, ce, cl, cs, di, dn⟩ := X
  dsimp only at ha hw2 c4 c6 ⊢
  subst ha
  go_enter Try.func55, Try.ntmps55
  go_wp2
  clear hw2
  go_wp2
  go_ret
  exact ⟨rfl, hb2⟩
 ·obtain ⟨j, rfl⟩ : ∃ j, s = S + j := ⟨s - S, by omega⟩
  have hj : j < sets.length := by omega
  have hres := ofP_set (G := G) (n := xn) (st := (k : Int)) hS hj
  rw [hres]
  have hd : decide (S + j < S) = false := by simp
  have hwr : IntKind.i64.wrap (((S + j : Nat) : Int) - (S : Int)) = (j : Int) := by rw [show ((S + j : Nat) : Int) - (S : Int) = (j : Int) by push_cast; omega]; exact IntWalk.i64_in _ (by omega)
  obtain ⟨t, ht⟩ : ∃ t, t = S + j := ⟨_, rfl⟩
  rw [← ht] at hd hwr hs40 ⊢
  have hl : (sets.getD j []).length = G.edges.length := by
   rw [List.getD_eq_getElem?_getD, List.getElem?_eq_getElem hj]
   exact hrow _ (List.getElem_mem hj)
  obtain ⟨bs, os, a2, c2, has, _, cr, hrw⟩ := (h.s.below hb2).at j hj
  have hrow2 : (sets.getD j []) = sets[j] := by rw [List.getD_eq_getElem?_getD, List.getElem?_eq_getElem hj]; rfl
  rw [hrow2] at hl ⊢
  generalize sets[j] = row at cr hrw hl ⊢
  have hj2 : (j : Int) < (sets.length : Int) := by omega
  replace hS := Lib.hid hS
  replace ht := Lib.hid ht
  have hlen : Hid (row.length = G.edges.length) := hl
  clear h hall hres s0 s16 t16 hrow r1 r1' r2 hz1 hlt hs c6 hrow2 hl
  obtain ⟨ai, ae, al, as_, bi, bn, ci, ce, cl, cs, di, dn⟩ := X
  dsimp only at has hw2 c1 c3 c4 ⊢
  subst has
  by_cases h0 : xn < 0
  ·have h0' : decide (0 ≤ xn) = false := by simpa using h0
   rw [inG_no h0, Bool.false_and]
   go_enter Try.func55, Try.ntmps55
   go_wp2
   clear hw2
   go_quiet (fail)
   go_wp2
   go_ret
   exact ⟨rfl, bdrewN hb2 _⟩
  have h0' : decide (0 ≤ xn) = true := by simpa using h0
  rw [inG_yes (show 0 ≤ xn by omega)]
  obtain ⟨i, rfl⟩ := Int.eq_ofNat_of_zero_le (show 0 ≤ xn by omega)
  by_cases h1 : i < G.edges.length
  ·have h1' : decide (i < G.edges.length) = true := by simpa using h1
   rw [decide_eq_true (show (i : Int) < (G.edges.length : Int) by omega), Bool.true_and]
   have hil : i < row.length := by rw [hlen.out]; exact h1
   obtain ⟨b3, o3, ha2, _, cv⟩ := hrw.at i hil
   have hv : Hid (row.getD (i : Int).toNat false = row[i]) := by show _ = _; rw [Int.toNat_natCast, List.getD_eq_getElem?_getD, List.getElem?_eq_getElem hil]; rfl
   rw [hv.out]
   generalize row[i] = v at cv
   subst ha2
   have hi2 : (i : Int) < (row.length : Int) := by omega
   go_enter Try.func55, Try.ntmps55
   go_wp2
   clear hw2
   go_quiet (fail)
   go_wp2
   go_ret
   exact ⟨rfl, bdrewN hb2 _⟩
  ·have h1' : decide (i < G.edges.length) = false := by simpa using h1
   rw [decide_eq_false (show ¬ (i : Int) < (G.edges.length : Int) by omega), Bool.false_and]
   go_enter Try.func55, Try.ntmps55
   go_wp2
   clear hw2
   go_quiet (fail)
   go_wp2
   go_ret
   exact ⟨rfl, bdrewN hb2 _⟩
end Go.Proofs.Ytfcpfcgcfaacnaa
