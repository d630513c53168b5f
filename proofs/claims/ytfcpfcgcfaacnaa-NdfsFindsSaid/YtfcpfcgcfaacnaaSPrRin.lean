/- The document's Source: whether a graph with sets is one. Conditions: the bounds of an argument. The document's In. Conditions: a product that the document's New tells. The document's First. Conditions: a product that the document's New tells. The document's Next. Conditions: a product that the document's New tells. The document's Edge. Conditions: a product that the document's New tells. The document's New. Conditions: the bounds of an argument. The law's same: whether rows of pairs are alike. Conditions: a bound. The law's light: whether there is not too much. Conditions: the bounds of an argument. -/
import Derived.Test.YtfcpfcgcfaacnaaSPrRef
import Derived.Test.YtfcpfcgcfaacnaaSPrIn
import Derived.Test.YtfcpfcgcfaacnaaSAuto
namespace Go.Proofs.Ytfcpfcgcfaacnaa
open Go.RowKit
theorem take_all {n : Nat} {sets : List (List Bool)} {k : Nat} (hk : k < sets.length) (h : ∀ s ∈ sets.take k, s.length = n) (h1 : sets[k].length = n) : ∀ s ∈ sets.take (k + 1), s.length = n := by
 intro s hs
 rw [List.take_add_one, List.getElem?_eq_getElem hk, Option.toList_some, List.mem_append] at hs
 rcases hs with h2 | h2
 ·exact h s h2
 ·simp at h2; subst h2; exact h1
set_option maxHeartbeats 2000000 in
theorem rsource_any (w : World) (X : RX) (G : GR) (sets : List (List Bool)) (hG : GAt w X.ai X.ae X.al G) (ok : GOk G) (hS : SetsAt w X.as_ sets) :
  Calls Try.prog 31 #[gv X G, .slice X.as_ sets.length X.cs] w fun e w' => e = .returned (.bool (srcB G sets)) ∧ Below w.heap.size w w' := by
 have r1 := RowAt.new (w := w) (T := TG) #[.slice X.ai G.init.length X.ci, .slice X.ae G.edges.length X.ce, .slice X.al G.labels.length X.cl] rfl
 have hb1 := balloc (Below.refl w.heap.size w) (.cells #[.slice X.ai G.init.length X.ci, .slice X.ae G.edges.length X.ce, .slice X.al G.labels.length X.cl] TG)
 have CK := rgcheck_any _ X.ai X.ae X.al X.ci X.ce X.cl G (hG.below hb1) ok
 obtain ⟨w1, hw1⟩ : ∃ w1, w.alloc (.cells #[.slice X.ai G.init.length X.ci, .slice X.ae G.edges.length X.ce, .slice X.al G.labels.length X.cl] TG) = w1 := ⟨_, rfl⟩
 rw [hw1] at r1 hb1 CK
 have c0 : w1.cell? ⟨w.heap.size, 0, none⟩ = some (.slice X.ai G.init.length X.ci) := r1.cell 0
 have c1 : w1.cell? ⟨w.heap.size, 1, none⟩ = some (.slice X.ae G.edges.length X.ce) := r1.cell 1
 have c2 : w1.cell? ⟨w.heap.size, 2, none⟩ = some (.slice X.al G.labels.length X.cl) := r1.cell 2
 have hsrc : Hid (srcB G sets = (decide (gchk G = 0) && decide (sets.length ≤ 16) && sets.all fun s => decide (s.length = G.edges.length))) := rfl
 rw [hsrc.out]
 replace r1 := Lib.hid r1
 replace hS := Lib.hid (hS.below hb1)
 by_cases hc : gchk G ≠ 0
 ·have hcb : (gchk G != 0) = true := by simpa using hc
  rw [decide_eq_false hc, Bool.false_and, Bool.false_and]
  generalize gchk G = why at hcb CK
  replace CK := Lib.hid CK
  clear hc hG ok
  go_enter Try.func31, Try.ntmps31
  go_wp2_with fail
  refine CK.out.mono ?_
  rintro e w2 ⟨rfl, hb2⟩
  go_wp2
  go_ret
  exact ⟨rfl, btrans hb1 hb2⟩
 have hc : gchk G = 0 := by simpa using hc
 rw [hc] at CK ⊢
 rw [decide_eq_true rfl, Bool.true_and]
 replace CK := Lib.hid CK
 by_cases hl : sets.length ≤ 16
 ·have hlb : decide (16 < sets.length) = false := by simpa using hl
  rw [decide_eq_true hl, Bool.true_and]
  have hl2 : (sets.length : Int) ≤ 16 := by omega
  obtain ⟨n, hn⟩ : ∃ n, n = G.edges.length := ⟨_, rfl⟩
  rw [← hn]
  replace hn := Lib.hid hn
  go_enter Try.func31, Try.ntmps31
  go_wp2_with fail
  refine CK.out.mono ?_
  rintro e w2 ⟨rfl, hb2⟩
  have r2 := Lib.hid (r1.out.below hb2)
  have hb3 := Lib.hid (btrans hb1 hb2)
  have hS2 := Lib.hid (hS.out.below hb2)
  have d1 : w2.cell? ⟨w.heap.size, 1, none⟩ = some (.slice X.ae n X.ce) := by have := r2.out.cell 1; rw [← hn.out] at this; exact this
  clear hb2 c0 c1 c2 hb1 hw1 hG ok hl hc CK r1 hS
  go_wp2
  go_loopw [4, 5] (fun bv iv wr => ∃ k m : Nat, bv = .bool false ∧ k ≤ sets.length ∧ iv = .int .i64 k ∧ wr = w2.drewN m ∧ Hid (∀ s ∈ sets.take k, s.length = n)) (fun _ iv _ => sets.length - (intOf iv).toNat)
  case atStart => exact ⟨0, 0, rfl, Nat.zero_le _, rfl, rfl, fun s hs => by simp at hs⟩
  case round =>
   obtain ⟨k, m, rfl, hk, rfl, rfl, hs⟩ := hrel
   by_cases hlt : k < sets.length
   ·obtain ⟨bs, os, a2, c2, has, _, cr, _⟩ := hS2.out.at k hlt
    have hyes : Hid (sets[k].length = n → ∀ s ∈ sets.take (k + 1), s.length = n) := take_all hlt hs.out
    have hno : Hid (sets[k].length ≠ n → (sets.all fun s => decide (s.length = n)) = false) := fun hne => by
     rw [List.all_eq_false]
     exact ⟨sets[k], List.getElem_mem hlt, by simpa using hne⟩
    generalize sets[k] = row at cr hyes hno
    have hk2 : (k : Int) < (sets.length : Int) := by omega
    obtain ⟨ai, ae, al, as_, bi, bn, ci, ce, cl, cs, di, dn⟩ := X
    dsimp only at has d1 ⊢
    subst has
    by_cases he : row.length = n
    ·have heb : ((row.length : Int) != (n : Int)) = false := by simp; omega
     have hs2 := Lib.hid (hyes.out he)
     clear hyes hno he hs
     go_wp2
     go_quiet (fail)
     go_wp2
     go_roundw
     case rel => exact ⟨k + 1, _, rfl, by omega, by go_num, by first | rfl | exact World.drewN_drewN _ _ _, hs2.out⟩
     case measure => simp [intOf]; omega
    ·have heb : ((row.length : Int) != (n : Int)) = true := by simp; omega
     have hr := Lib.hid (hno.out he)
     clear hyes hno he hs
     go_wp2
     go_quiet (fail)
     go_wp2
     go_ret
     rw [hr.out]
     exact ⟨rfl, by first | exact bdrewN hb3.out _ | (rw [World.drewN_drewN]; exact bdrewN hb3.out _)⟩
   ·obtain rfl : k = sets.length := by omega
    rw [List.take_length] at hs
    have hr : Hid ((sets.all fun s => decide (s.length = n)) = true) := by
     show _ = _
     rw [List.all_eq_true]
     intro s hs'
     simpa using hs.out s hs'
    go_wp2
    go_ret
    rw [hr.out]
    exact ⟨rfl, bdrewN hb3.out _⟩
 ·have hl2 : 16 < (sets.length : Int) := by omega
  rw [decide_eq_false hl, Bool.false_and]
  clear hG ok hc
  go_enter Try.func31, Try.ntmps31
  go_wp2_with fail
  refine CK.out.mono ?_
  rintro e w2 ⟨rfl, hb2⟩
  go_wp2
  go_ret
  exact ⟨rfl, btrans hb1 hb2⟩
end Go.Proofs.Ytfcpfcgcfaacnaa
namespace Go.Proofs.Ytfcpfcgcfaacnaa
open Go.RowKit
set_option maxHeartbeats 2000000 in
theorem rin_any (w : World) (X : RX) (G : GR) (sets : List (List Bool)) (A : AU) (h : RpA w X G sets A) (x : PP) :
  Calls Try.prog 26 #[rpv X G sets A, ppv x] w fun e w' => e = .returned (.bool (inP G sets A x)) ∧ Below w.heap.size w w' := by
 have r1 := RowAt.new (w := w) (T := TRP) #[.slice X.ai G.init.length X.ci, .slice X.ae G.edges.length X.ce, .slice X.al G.labels.length X.cl, .slice X.as_ sets.length X.cs, .int .i64 A.sets, .slice X.bi A.init.length X.di, .slice X.bn A.nodes.length X.dn] rfl
 have r2 := RowAt.new (w := w.alloc (.cells #[.slice X.ai G.init.length X.ci, .slice X.ae G.edges.length X.ce, .slice X.al G.labels.length X.cl, .slice X.as_ sets.length X.cs, .int .i64 A.sets, .slice X.bi A.init.length X.di, .slice X.bn A.nodes.length X.dn] TRP)) (T := TRq) #[.int .i64 x.node, .int .i64 x.state, .int .i64 x.turn] rfl
 have r1' := r1.alloc (.cells #[.int .i64 x.node, .int .i64 x.state, .int .i64 x.turn] TRq)
 have hb2 := balloc (balloc (Below.refl w.heap.size w) (.cells #[.slice X.ai G.init.length X.ci, .slice X.ae G.edges.length X.ce, .slice X.al G.labels.length X.cl, .slice X.as_ sets.length X.cs, .int .i64 A.sets, .slice X.bi A.init.length X.di, .slice X.bn A.nodes.length X.dn] TRP)) (.cells #[.int .i64 x.node, .int .i64 x.state, .int .i64 x.turn] TRq)
 have hz1 : (w.alloc (.cells #[.slice X.ai G.init.length X.ci, .slice X.ae G.edges.length X.ce, .slice X.al G.labels.length X.cl, .slice X.as_ sets.length X.cs, .int .i64 A.sets, .slice X.bi A.init.length X.di, .slice X.bn A.nodes.length X.dn] TRP)).heap.size = w.heap.size + 1 := by simp
 rw [hz1] at r2
 have H := Lib.hid (fun wr (hb : Below w.heap.size w wr) => h.below hb)
 obtain ⟨xn, xs, xt⟩ := x
 simp only at r1' r2 hb2
 obtain ⟨w2, hw2⟩ : ∃ w2, (w.alloc (.cells #[.slice X.ai G.init.length X.ci, .slice X.ae G.edges.length X.ce, .slice X.al G.labels.length X.cl, .slice X.as_ sets.length X.cs, .int .i64 A.sets, .slice X.bi A.init.length X.di, .slice X.bn A.nodes.length X.dn] TRP)).alloc (.cells #[.int .i64 xn, .int .i64 xs, .int .i64 xt] TRq) = w2 := ⟨_, rfl⟩
 rw [hw2] at r1' r2 hb2
 have RR := Lib.hid (rright_any w2 X G sets A (H.out w2 hb2) ⟨xn, xs, xt⟩)
 have CC : Hid (∀ w3, Below w2.heap.size w2 w3 → w3.cell? ⟨w.heap.size, 0, none⟩ = some (.slice X.ai G.init.length X.ci) ∧ w3.cell? ⟨w.heap.size, 1, none⟩ = some (.slice X.ae G.edges.length X.ce) ∧ w3.cell? ⟨w.heap.size, 2, none⟩ = some (.slice X.al G.labels.length X.cl) ∧ w3.cell? ⟨w.heap.size, 3, none⟩ = some (.slice X.as_ sets.length X.cs) ∧ w3.cell? ⟨w.heap.size, 4, none⟩ = some (.int .i64 A.sets) ∧ w3.cell? ⟨w.heap.size, 5, none⟩ = some (.slice X.bi A.init.length X.di) ∧ w3.cell? ⟨w.heap.size, 6, none⟩ = some (.slice X.bn A.nodes.length X.dn) ∧ w3.cell? ⟨w.heap.size + 1, 0, none⟩ = some (.int .i64 xn) ∧ w3.cell? ⟨w.heap.size + 1, 1, none⟩ = some (.int .i64 xs) ∧ w3.cell? ⟨w.heap.size + 1, 2, none⟩ = some (.int .i64 xt)) := fun w3 hb => by
  have a := r1'.below hb
  have b := r2.below hb
  exact ⟨a.cell 0, a.cell 1, a.cell 2, a.cell 3, a.cell 4, a.cell 5, a.cell 6, b.cell 0, b.cell 1, b.cell 2⟩
 obtain ⟨c0, c1, c2, c3, c4, c5, c6, x0, x1, x2⟩ := CC.out w2 (Below.refl _ _)
 replace hb2 := Lib.hid hb2
 clear r1 r2 r1' hz1 h
 cases hi : isP sets A ⟨xn, xs, xt⟩ with
 | false =>
  have hr : Hid (inP G sets A ⟨xn, xs, xt⟩ = false) := by show _ = _; unfold inP; rw [hi]; rfl
  rw [hi] at RR
  rw [hr.out]
  clear hi hr
  go_enter Try.func26, Try.ntmps26
  go_wp2_with fail
  refine RR.out.mono ?_
  rintro e w3 ⟨rfl, hb3⟩
  clear hw2 c0 c1 c2 c3 c4 c5 c6 x0 x1 x2
  go_wp2
  go_ret
  exact ⟨rfl, btrans hb2.out hb3⟩
 | true =>
  obtain ⟨k, t, hxs, hxt, hk, htm⟩ := isP_range hi
  have hr : Hid (inP G sets A ⟨xn, xs, xt⟩ = (decide (allS sets A = 0) || (decide (t = 0) && ofP G sets A ⟨xn, xs, xt⟩))) := by
   show _ = _
   unfold inP
   rw [hi, hxt, Bool.true_and]
   congr 2
   simp
  simp only at hxs hxt
  subst hxs hxt
  obtain ⟨m, hm⟩ : ∃ m, m = allS sets A := ⟨_, rfl⟩
  rw [← hm] at hr htm
  have AL := Lib.hid (fun wr (hb : Below w.heap.size w wr) => rall_any wr X G sets A (H.out wr hb))
  rw [← hm] at AL
  have IS := Lib.hid (fun wr (hb : Below w.heap.size w wr) (h0 : 0 < m) => ris_any wr X G sets A (H.out wr hb) ⟨xn, k, t⟩ k 0 hk rfl (by rw [← hm]; exact h0))
  rw [hi] at RR
  rw [hr.out]
  replace hm := Lib.hid hm
  clear hi hr hk
  by_cases ht : t = 0
  ·have htb : ((t : Int) == 0) = true := by simp; exact ht
   rw [decide_eq_true ht, Bool.true_and]
   have hof : Hid (ofP G sets A ⟨xn, k, t⟩ = ofP G sets A ⟨xn, k, ((0 : Nat) : Int)⟩) := by show _ = _; rw [ht]
   replace ht := Lib.hid ht
   by_cases h0 : m = 0
   ·have h0b : ((m : Int) == 0) = true := by simp; exact h0
    rw [decide_eq_true h0, Bool.true_or]
    replace h0 := Lib.hid h0
    clear htm
    go_enter Try.func26, Try.ntmps26
    go_wp2_with fail
    refine RR.out.mono ?_
    rintro e w3 ⟨rfl, hb3⟩
    clear hw2 c0 c1 c2 c3 c4 c5 c6 x0 x1 x2
    obtain ⟨c0, c1, c2, c3, c4, c5, c6, x0, x1, x2⟩ := CC.out w3 hb3
    have hbw := Lib.hid (btrans hb2.out hb3)
    go_wp2_with fail
    refine (AL.out w3 hbw.out).mono ?_
    rintro e w4 ⟨rfl, hb4⟩
    clear c0 c1 c2 c3 c4 c5 c6 x0 x1 x2
    go_wp2
    go_ret
    exact ⟨rfl, btrans hbw.out hb4⟩
   ·have h0b : ((m : Int) == 0) = false := by simp; exact h0
    rw [decide_eq_false h0, Bool.false_or, hof.out]
    obtain ⟨r, hr⟩ : ∃ r, r = ofP G sets A ⟨xn, k, ((0 : Nat) : Int)⟩ := ⟨_, rfl⟩
    have IS2 := Lib.hid (fun wr hb => IS.out wr hb (by omega))
    simp only at IS2
    rw [← hr] at IS2 ⊢
    replace h0 := Lib.hid h0
    clear htm hr hof IS
    go_enter Try.func26, Try.ntmps26
    go_wp2_with fail
    refine RR.out.mono ?_
    rintro e w3 ⟨rfl, hb3⟩
    clear hw2 c0 c1 c2 c3 c4 c5 c6 x0 x1 x2
    obtain ⟨c0, c1, c2, c3, c4, c5, c6, x0, x1, x2⟩ := CC.out w3 hb3
    have hbw := Lib.hid (btrans hb2.out hb3)
    go_wp2_with fail
    refine (AL.out w3 hbw.out).mono ?_
    rintro e w4 ⟨rfl, hb4⟩
    clear c0 c1 c2 c3 c4 c5 c6 x0 x1 x2
    obtain ⟨c0, c1, c2, c3, c4, c5, c6, x0, x1, x2⟩ := CC.out w4 (btrans hb3 hb4)
    have hbw4 := Lib.hid (btrans hbw.out hb4)
    go_wp2_with fail
    refine (IS2.out w4 hbw4.out).mono ?_
    rintro e w5 ⟨rfl, hb5⟩
    clear c0 c1 c2 c3 c4 c5 c6 x0 x1 x2
    go_wp2
    go_ret
    exact ⟨rfl, btrans hbw4.out hb5⟩
  ·have htb : ((t : Int) == 0) = false := by simp; exact ht
   rw [decide_eq_false ht, Bool.false_and, decide_eq_false (show ¬ m = 0 by omega)]
   replace ht := Lib.hid ht
   clear htm
   go_enter Try.func26, Try.ntmps26
   go_wp2_with fail
   refine RR.out.mono ?_
   rintro e w3 ⟨rfl, hb3⟩
   clear hw2 c0 c1 c2 c3 c4 c5 c6 x0 x1 x2
   obtain ⟨c0, c1, c2, c3, c4, c5, c6, x0, x1, x2⟩ := CC.out w3 hb3
   go_wp2
   go_ret
   exact ⟨rfl, btrans hb2.out hb3⟩
end Go.Proofs.Ytfcpfcgcfaacnaa
namespace Go.Proofs.Ytfcpfcgcfaacnaa
open Go.RowKit
def GivesR (w : World) (l : List PP) (e : Ending) (w' : World) : Prop := ∃ a c, e = .returned (.slice a l.length c) ∧ OwnQ w' w.heap.size TRq a c l ∧ Below w.heap.size w w'
theorem firstTo_len (G : GR) (A : AU) (ns : List Int) : (firstTo G A ns).length ≤ ns.length * A.init.length := by
 induction ns using snoc_rec with
 | h0 => simp [firstTo]
 | h1 l n ih =>
  rw [firstTo_snoc]
  have := pairsP_len A (labP G n) n 0 A.init (firstTo G A l)
  rw [List.length_append, List.length_singleton, Nat.succ_mul]
  omega
set_option maxHeartbeats 8000000 in
theorem rfirst_any (w : World) (X : RX) (G : GR) (sets : List (List Bool)) (A : AU) (h : RpA w X G sets A) :
  Calls Try.prog 24 #[rpv X G sets A] w (GivesR w (firstP G A)) := by
 have r1 := RowAt.new (w := w) (T := TRP) #[.slice X.ai G.init.length X.ci, .slice X.ae G.edges.length X.ce, .slice X.al G.labels.length X.cl, .slice X.as_ sets.length X.cs, .int .i64 A.sets, .slice X.bi A.init.length X.di, .slice X.bn A.nodes.length X.dn] rfl
 have hb1 := balloc (Below.refl w.heap.size w) (.cells #[.slice X.ai G.init.length X.ci, .slice X.ae G.edges.length X.ce, .slice X.al G.labels.length X.cl, .slice X.as_ sets.length X.cs, .int .i64 A.sets, .slice X.bi A.init.length X.di, .slice X.bn A.nodes.length X.dn] TRP)
 obtain ⟨w1, hw1⟩ : ∃ w1, w.alloc (.cells #[.slice X.ai G.init.length X.ci, .slice X.ae G.edges.length X.ce, .slice X.al G.labels.length X.cl, .slice X.as_ sets.length X.cs, .int .i64 A.sets, .slice X.bi A.init.length X.di, .slice X.bn A.nodes.length X.dn] TRP) = w1 := ⟨_, rfl⟩
 rw [hw1] at r1 hb1
 have H := Lib.hid (fun wr (hb : Below w1.heap.size w1 wr) => h.below (btrans hb1 hb))
 have CC : Hid (∀ w3, Below w1.heap.size w1 w3 → w3.cell? ⟨w.heap.size, 0, none⟩ = some (.slice X.ai G.init.length X.ci) ∧ w3.cell? ⟨w.heap.size, 1, none⟩ = some (.slice X.ae G.edges.length X.ce) ∧ w3.cell? ⟨w.heap.size, 2, none⟩ = some (.slice X.al G.labels.length X.cl) ∧ w3.cell? ⟨w.heap.size, 3, none⟩ = some (.slice X.as_ sets.length X.cs) ∧ w3.cell? ⟨w.heap.size, 4, none⟩ = some (.int .i64 A.sets) ∧ w3.cell? ⟨w.heap.size, 5, none⟩ = some (.slice X.bi A.init.length X.di) ∧ w3.cell? ⟨w.heap.size, 6, none⟩ = some (.slice X.bn A.nodes.length X.dn)) := fun w3 hb => by
  have a := r1.below hb
  exact ⟨a.cell 0, a.cell 1, a.cell 2, a.cell 3, a.cell 4, a.cell 5, a.cell 6⟩
 have LB := Lib.hid (fun wr (hb : Below w1.heap.size w1 wr) x => rlabel_any wr X G sets A (H.out wr hb) x)
 have RD := Lib.hid (fun wr (hb : Below w1.heap.size w1 wr) k hk n => rreads_any wr X A (H.out wr hb).au (H.out wr hb).aok k hk (labP G n) (labP_lt (H.out wr hb).ok n))
 have hin := Lib.hid (chk_good h.chk).2.2.2.1
 have hi12 := h.lt.i
 have ha8 := h.lt.ai
 have hlow := Nat.le_trans hb1.size (Nat.le_refl _)
 have hW1 := Lib.hid hb1
 clear r1 hb1 h
 go_enter Try.func24, Try.ntmps24
 go_wp2
 clear hw1
 go_loopw [3, 4] (fun lv iv wr => ∃ (i : Nat) (l : List PP) (a : Option Addr) (c : Nat), i ≤ G.init.length ∧ iv = .int .i64 i ∧ lv = .slice a l.length c ∧ Hid (l = firstTo G A (G.init.take i)) ∧ l.length ≤ i * 20 ∧ Hid (OwnQ wr w1.heap.size TRq a c l) ∧ Below w1.heap.size w1 wr) (fun _ iv _ => G.init.length - (intOf iv).toNat)
 case atStart => exact ⟨0, [], none, 0, Nat.zero_le _, rfl, rfl, rfl, Nat.zero_le _, OwnR.nil _ _ _ _, Below.refl _ _⟩
 case round =>
  obtain ⟨i, l, a, c, hi, rfl, rfl, hs, hll, hO, hbr⟩ := hrel
  obtain ⟨c0, c1, c2, c3, c4, c5, c6⟩ := CC.out wr hbr
  by_cases hlt : i < G.init.length
  ·have hi2 : (i : Int) < (G.init.length : Int) := by omega
   have hst : Hid (firstTo G A (G.init.take (i + 1)) = pairsP A (labP G G.init[i]) G.init[i] 0 l A.init) := by
    show _ = _
    rw [List.take_add_one, List.getElem?_eq_getElem hlt, Option.toList_some, firstTo_snoc, ← hs.out]
   obtain ⟨n, hn⟩ : ∃ n, n = G.init[i] := ⟨_, rfl⟩
   rw [← hn] at hst
   have hNC : Hid (∀ w3, Below w1.heap.size w1 w3 → ∃ b off, X.ai = some ⟨b, off, none⟩ ∧ w3.cell? ⟨b, off + i, none⟩ = some (.int .i64 n)) := fun w3 hb => by
    obtain ⟨b, off, x, ha, cx, hx⟩ := (H.out w3 hb).g.init.at i hlt
    have : x = n := by rw [hx.out, List.getD_eq_getElem?_getD, List.getElem?_eq_getElem hlt, hn]; rfl
    rw [this] at cx
    exact ⟨b, off, ha, cx⟩
   replace hn := Lib.hid hn
   replace hbr := Lib.hid hbr
   clear hs
   go_wp2
   go_loopw [3, 5] (fun lv iv wr => ∃ (k : Nat) (l2 : List PP) (a : Option Addr) (c : Nat), k ≤ A.init.length ∧ iv = .int .i64 k ∧ lv = .slice a l2.length c ∧ Hid (l2 = pairsP A (labP G n) n 0 l (A.init.take k)) ∧ l2.length ≤ i * 20 + k ∧ Hid (OwnQ wr w1.heap.size TRq a c l2) ∧ Below w1.heap.size w1 wr) (fun _ iv _ => A.init.length - (intOf iv).toNat)
   case atStart => exact ⟨0, l, a, c, Nat.zero_le _, rfl, rfl, rfl, by omega, hO, hbr.out⟩
   case round =>
    clear hO hbr c0 c1 c2 c3 c4 c5 c6
    obtain ⟨k, l2, a, c, hk, rfl, rfl, hs, hll2, hO, hbr⟩ := hrel
    obtain ⟨c0, c1, c2, c3, c4, c5, c6⟩ := CC.out _ hbr
    by_cases hlt2 : k < A.init.length
    ·obtain ⟨b, off, hai, cn⟩ := hNC.out _ hbr
     obtain ⟨b2, off2, q, hbi, cq, hq⟩ := (H.out _ hbr).au.init.at k hlt2
     have hq2 : q = A.init[k] := by rw [hq.out, List.getD_eq_getElem?_getD, List.getElem?_eq_getElem hlt2]; rfl
     have hqr := hin.out _ (List.getElem_mem hlt2)
     rw [← hq2] at hqr
     obtain ⟨s, rfl⟩ := Int.eq_ofNat_of_zero_le hqr.1
     have hsn : s < A.nodes.length := by omega
     have hk2 : (k : Int) < (A.init.length : Int) := by omega
     have hst2 := pairsP_snoc A (labP G n) n 0 l (A.init.take k) s
     rw [← hs.out, hq2, show A.init.take k ++ [A.init[k]] = A.init.take (k + 1) by rw [List.take_add_one, List.getElem?_eq_getElem hlt2, Option.toList_some], ← hq2] at hst2
     have RDs := Lib.hid (fun wr hb => RD.out wr hb s hsn n)
     generalize readsB (nodeP A s) (labP G n) = rd at RDs hst2
     replace hst2 := Lib.hid hst2
     replace hbr := Lib.hid hbr
     clear hq hq2 hqr RD hs
     obtain ⟨ai, ae, al, as_, bi, bn, ci, ce, cl, cs, di, dn⟩ := X
     dsimp only at hai hbi c0 c1 c2 c3 c4 c5 c6 CC
     subst hai
     subst hbi
     go_wp2
     go_quiet (fail)
     go_wp2
     obtain ⟨w2, hw2⟩ : ∃ w2, wr.drewN nq = w2 := ⟨_, rfl⟩
     have hb2 : Hid (Below w1.heap.size w1 w2) := by show Below _ _ _; rw [← hw2]; exact bdrewN hbr.out nq
     have hO2 : Hid (OwnQ w2 w1.heap.size TRq a c l2) := by show OwnQ _ _ _ _ _ _; rw [← hw2]; exact OwnR.keeps (S := fun _ => False) hO.out (Keeps.drewN _ _ _) (fun _ _ h => h)
     rw [hw2]
     clear hw2 c0 c1 c2 c3 c4 c5 c6 cn cq hO hbr
     obtain ⟨c0, c1, c2, c3, c4, c5, c6⟩ := CC.out w2 hb2.out
     go_region_held3 (fun w' => w'.cell? ⟨w.heap.size, 0, none⟩ = some (.slice (some ⟨b, off, none⟩) G.init.length ci) ∧ w'.cell? ⟨w.heap.size, 1, none⟩ = some (.slice ae G.edges.length ce) ∧ w'.cell? ⟨w.heap.size, 2, none⟩ = some (.slice al G.labels.length cl) ∧ w'.cell? ⟨w.heap.size, 3, none⟩ = some (.slice as_ sets.length cs) ∧ w'.cell? ⟨w.heap.size, 4, none⟩ = some (.int .i64 A.sets) ∧ w'.cell? ⟨w.heap.size, 5, none⟩ = some (.slice (some ⟨b2, off2, none⟩) A.init.length di) ∧ w'.cell? ⟨w.heap.size, 6, none⟩ = some (.slice bn A.nodes.length dn)) (first | exact CC.out _ B2 | exact CC.out _ B1 | exact CC.out _ hb2.out.drew | exact CC.out _ hb2.out) (first
      | (go_at_call 51; (with_reducible refine (LB.out _ hb2.out.drew n).mono ?_); rintro e w3 ⟨rfl, hb3⟩; have K1 : Below w2.heap.size w2 w3 := btrans (Below.refl _ _).drew hb3; have B1 : Below w1.heap.size w1 w3 := btrans hb2.out K1)
      | (go_at_call 50; (with_reducible refine (RDs.out _ B1).mono ?_); rintro e w4 ⟨rfl, hb4⟩; have K2 : Below w2.heap.size w2 w4 := btrans K1 hb4; have B2 : Below w1.heap.size w1 w4 := btrans B1 hb4))
     have hO4 : Hid (OwnQ w4 w1.heap.size TRq a c l2) := OwnR.keeps (S := fun _ => False) hO2.out (Keeps.of_below K2) (fun _ _ h => h)
     replace B2 := Lib.hid B2
     clear c0 c1 c2 c3 c4 c5 c6 hO2 hb2 B1 K1 K2 hb3 hb4
     cases rd with
     | false =>
      have hs3 : Hid (l2 = pairsP A (labP G n) n 0 l (A.init.take (k + 1))) := by show _ = _; rw [hst2.out, if_neg (by decide)]
      clear hst2
      go_wp2
      go_roundw
      case rel => exact ⟨k + 1, l2, a, c, by omega, by go_num, rfl, hs3, by omega, hO4, B2.out⟩
      case measure => simp [intOf]; omega
     | true =>
      have hs3 : Hid (addP l2 ⟨n, s, 0⟩ = pairsP A (labP G n) n 0 l (A.init.take (k + 1))) := by show _ = _; rw [hst2.out, if_pos rfl]
      have AD := Lib.hid (radd_any w4 w1.heap.size B2.out.size a c l2 hO4.out ⟨n, s, 0⟩ (by omega))
      have hal := addP_len l2 ⟨n, s, 0⟩
      generalize addP l2 ⟨n, s, 0⟩ = l3 at hs3 AD hal
      clear hst2
      go_wp2_with fail
      refine AD.out.mono ?_
      rintro e w5 ⟨a5, c5, rfl, hO5, hK5, _⟩
      have hb5 := hK5.below B2.out (fun j hj => (OwnR.lt hO4.out hj).1)
      replace hO5 := Lib.hid hO5
      clear hK5
      go_wp2
      go_roundw
      case rel => exact ⟨k + 1, l3, a5, c5, by omega, by go_num, rfl, hs3, by omega, hO5, hb5⟩
      case measure => simp [intOf]; omega
    ·have hke : k = A.init.length := by omega
     subst hke
     rw [List.take_length] at hs
     replace hbr := Lib.hid hbr
     go_wp2
     go_roundw
     case rel => exact ⟨i + 1, l2, a, c, by omega, by go_num, rfl, hs.out.trans hst.out.symm, by omega, hO, hbr.out⟩
     case measure => simp [intOf]; omega
  ·have hie : i = G.init.length := by omega
   subst hie
   rw [List.take_length] at hs
   replace hbr := Lib.hid hbr
   go_wp2
   go_ret
   show GivesR _ (firstTo G A G.init) _ _
   rw [← hs.out]
   exact ⟨a, c, rfl, OwnR.lower hO.out hlow, btrans hW1.out hbr.out⟩
end Go.Proofs.Ytfcpfcgcfaacnaa
namespace Go.Proofs.Ytfcpfcgcfaacnaa
open Go.RowKit
abbrev rcells (w3 : World) (B : Nat) (ai : Option Addr) (ni ci : Nat) (ae : Option Addr) (ne ce : Nat) (al : Option Addr) (nl cl : Nat) (as_ : Option Addr) (ns cs : Nat) (S : Int) (bi : Option Addr) (nbi di : Nat) (bn : Option Addr) (nbn dn : Nat) (xn xs xt : Int) : Prop :=
 w3.cell? ⟨B, 0, none⟩ = some (.slice ai ni ci) ∧ w3.cell? ⟨B, 1, none⟩ = some (.slice ae ne ce) ∧ w3.cell? ⟨B, 2, none⟩ = some (.slice al nl cl) ∧ w3.cell? ⟨B, 3, none⟩ = some (.slice as_ ns cs) ∧ w3.cell? ⟨B, 4, none⟩ = some (.int .i64 S) ∧ w3.cell? ⟨B, 5, none⟩ = some (.slice bi nbi di) ∧ w3.cell? ⟨B, 6, none⟩ = some (.slice bn nbn dn) ∧ w3.cell? ⟨B + 1, 0, none⟩ = some (.int .i64 xn) ∧ w3.cell? ⟨B + 1, 1, none⟩ = some (.int .i64 xs) ∧ w3.cell? ⟨B + 1, 2, none⟩ = some (.int .i64 xt)
set_option maxRecDepth 20000 in
set_option maxHeartbeats 8000000 in
theorem rnext_any (w : World) (X : RX) (G : GR) (sets : List (List Bool)) (A : AU) (h : RpA w X G sets A) (x : PP) :
  Calls Try.prog 25 #[rpv X G sets A, ppv x] w (GivesR w (nextP G sets A x)) := by
 have r1 := RowAt.new (w := w) (T := TRP) #[.slice X.ai G.init.length X.ci, .slice X.ae G.edges.length X.ce, .slice X.al G.labels.length X.cl, .slice X.as_ sets.length X.cs, .int .i64 A.sets, .slice X.bi A.init.length X.di, .slice X.bn A.nodes.length X.dn] rfl
 have r2 := RowAt.new (w := w.alloc (.cells #[.slice X.ai G.init.length X.ci, .slice X.ae G.edges.length X.ce, .slice X.al G.labels.length X.cl, .slice X.as_ sets.length X.cs, .int .i64 A.sets, .slice X.bi A.init.length X.di, .slice X.bn A.nodes.length X.dn] TRP)) (T := TRq) #[.int .i64 x.node, .int .i64 x.state, .int .i64 x.turn] rfl
 have r1' := r1.alloc (.cells #[.int .i64 x.node, .int .i64 x.state, .int .i64 x.turn] TRq)
 have hb2 := balloc (balloc (Below.refl w.heap.size w) (.cells #[.slice X.ai G.init.length X.ci, .slice X.ae G.edges.length X.ce, .slice X.al G.labels.length X.cl, .slice X.as_ sets.length X.cs, .int .i64 A.sets, .slice X.bi A.init.length X.di, .slice X.bn A.nodes.length X.dn] TRP)) (.cells #[.int .i64 x.node, .int .i64 x.state, .int .i64 x.turn] TRq)
 have hz1 : (w.alloc (.cells #[.slice X.ai G.init.length X.ci, .slice X.ae G.edges.length X.ce, .slice X.al G.labels.length X.cl, .slice X.as_ sets.length X.cs, .int .i64 A.sets, .slice X.bi A.init.length X.di, .slice X.bn A.nodes.length X.dn] TRP)).heap.size = w.heap.size + 1 := by simp
 rw [hz1] at r2
 have H := Lib.hid (fun wr (hb : Below w.heap.size w wr) => h.below hb)
 obtain ⟨xn, xs, xt⟩ := x
 simp only at r1' r2 hb2
 obtain ⟨w2, hw2⟩ : ∃ w2, (w.alloc (.cells #[.slice X.ai G.init.length X.ci, .slice X.ae G.edges.length X.ce, .slice X.al G.labels.length X.cl, .slice X.as_ sets.length X.cs, .int .i64 A.sets, .slice X.bi A.init.length X.di, .slice X.bn A.nodes.length X.dn] TRP)).alloc (.cells #[.int .i64 xn, .int .i64 xs, .int .i64 xt] TRq) = w2 := ⟨_, rfl⟩
 rw [hw2] at r1' r2 hb2
 have RR := Lib.hid (rright_any w2 X G sets A (H.out w2 hb2) ⟨xn, xs, xt⟩)
 have CC : Hid (∀ w3, Below w2.heap.size w2 w3 → rcells w3 w.heap.size X.ai G.init.length X.ci X.ae G.edges.length X.ce X.al G.labels.length X.cl X.as_ sets.length X.cs A.sets X.bi A.init.length X.di X.bn A.nodes.length X.dn xn xs xt) := fun w3 hb => by
  have a := r1'.below hb
  have b := r2.below hb
  exact ⟨a.cell 0, a.cell 1, a.cell 2, a.cell 3, a.cell 4, a.cell 5, a.cell 6, b.cell 0, b.cell 1, b.cell 2⟩
 obtain ⟨c0, c1, c2, c3, c4, c5, c6, x0, x1, x2⟩ := CC.out w2 (Below.refl _ _)
 replace hb2 := Lib.hid hb2
 have hlt := Lib.hid h.lt
 have hchk := Lib.hid h.chk
 have hsrc := Lib.hid h.src
 clear r1 r2 r1' hz1 h
 cases hi : isP sets A ⟨xn, xs, xt⟩ with
 | false =>
  have hr : Hid (nextP G sets A ⟨xn, xs, xt⟩ = []) := by show _ = _; unfold nextP; rw [hi]; rfl
  rw [hi] at RR
  rw [hr.out]
  clear hi hr
  go_enter Try.func25, Try.ntmps25
  go_wp2_with fail
  refine RR.out.mono ?_
  rintro e w3 ⟨rfl, hb3⟩
  clear hw2 c0 c1 c2 c3 c4 c5 c6 x0 x1 x2
  go_wp2
  go_ret
  exact ⟨none, 0, rfl, OwnR.nil _ _ _ _, btrans hb2.out hb3⟩
 | true =>
  rw [hi] at RR
  have hN : Hid (nextP G sets A ⟨xn, xs, xt⟩ = nextTo G (turnP G sets A ⟨xn, xs, xt⟩) (edgesP G xn) (nodeP A xs).to A) := by show _ = _; unfold nextP; rw [hi]; rfl
  by_cases hin : inG G.edges.length xn = true
  ·obtain ⟨k, t, hxs, hxt, hk, htm⟩ := isP_range hi
   simp only at hxs hxt
   subst hxs hxt
   have hin2 := hin
   unfold inG at hin2
   simp only [Bool.and_eq_true, decide_eq_true_eq] at hin2
   obtain ⟨n0, rfl⟩ := Int.eq_ofNat_of_zero_le hin2.1
   have hn0 : n0 < G.edges.length := by omega
   obtain ⟨be, oe, a2, c2', hae, d1, e0, d2, hp⟩ := (H.out w (Below.refl _ _)).g.edges.at n0 hn0
   obtain ⟨b4, o4, hbn, d3, d4, d5, a3, x3, n3, hto⟩ := (H.out w (Below.refl _ _)).au.nodes.at k hk
   have hes : edgesP G (n0 : Int) = G.edges[n0] := by unfold edgesP; rw [hin, if_pos rfl]; simp [List.getD, hn0]
   have hes12 : G.edges[n0].length ≤ 12 := hlt.out.r _ (List.getElem_mem hn0)
   have hto12 : A.nodes[k].to.length ≤ 12 := hlt.out.t _ (List.getElem_mem hk)
   have htr := ((chk_good hchk.out).2.2.2.2 _ (List.getElem_mem hk)).1
   rw [hes, nodeP_at hk] at hN
   obtain ⟨es, hesd⟩ : ∃ es, es = G.edges[n0] := ⟨_, rfl⟩
   obtain ⟨tt, httd⟩ : ∃ tt, tt = A.nodes[k].to := ⟨_, rfl⟩
   rw [← hesd] at hN hes12 hp e0
   rw [← httd] at hN hto12 htr hto n3
   rw [hN.out]
   obtain ⟨T, hT⟩ : ∃ T, T = turnP G sets A ⟨n0, k, t⟩ := ⟨_, rfl⟩
   rw [← hT]
   obtain ⟨m, hm⟩ : ∃ m, m = allS sets A := ⟨_, rfl⟩
   rw [← hm] at htm
   obtain ⟨r, hr⟩ : ∃ r, r = ofP G sets A ⟨n0, k, t⟩ := ⟨_, rfl⟩
   have hT2 : Hid (T = if 0 < m ∧ r = true then ((t : Int) + 1) % (m : Int) else (t : Int)) := by show _ = _; rw [hT, hr, hm]; rfl
   have hm40 : m ≤ 40 := by
    obtain ⟨s0, s16, _⟩ := chk_sets hchk.out
    obtain ⟨_, t16, _⟩ := src_sets hsrc.out
    rw [hm]; unfold allS; omega
   have ht40 : (t : Int) ≤ 41 := by omega
   have AL := Lib.hid (fun wr (hb : Below w.heap.size w wr) => rall_any wr X G sets A (H.out wr hb))
   rw [← hm] at AL
   have IS := Lib.hid (fun wr (hb : Below w.heap.size w wr) (h0 : 0 < m) => ris_any wr X G sets A (H.out wr hb) ⟨n0, k, t⟩ k t hk rfl (by rw [← hm]; omega))
   simp only at IS
   rw [← hr] at IS
   have LB := Lib.hid (fun wr (hb : Below w.heap.size w wr) x => rlabel_any wr X G sets A (H.out wr hb) x)
   have RD := Lib.hid (fun wr (hb : Below w.heap.size w wr) k hk n => rreads_any wr X A (H.out wr hb).au (H.out wr hb).aok k hk (labP G n) (labP_lt (H.out wr hb).ok n))
   obtain ⟨q, hq⟩ : ∃ q, q = (decide (0 < m) && r) := ⟨_, rfl⟩
   replace hq := Lib.hid hq
   replace htr := Lib.hid htr
   replace hp := Lib.hid hp
   replace hto := Lib.hid hto
   have hn02 : (n0 : Int) < (G.edges.length : Int) := by omega
   have hk2 : (k : Int) < (A.nodes.length : Int) := by omega
   have hn03 : decide ((n0 : Int) < 0) = false := by simp
   have hsz := Lib.hid hb2.out.size
   replace hk := Lib.hid hk
   clear d1 d2 d3 d4 d5 hin hin2 hes hesd httd hN hT hm hr htm hn0 hlt hchk hsrc H hi
   obtain ⟨ai, ae, al, as_, bi, bn, ci, ce, cl, cs, di, dn⟩ := X
   dsimp only at hae hbn hw2 c0 c1 c2 c3 c4 c5 c6 CC
   subst hae hbn
   have EC : Hid (∀ wr, Below w.heap.size w wr → wr.cell? ⟨be, oe + n0, none⟩ = some (.slice a2 es.length c2') ∧ wr.cell? ⟨b4, o4 + k * 4 + 3, none⟩ = some (.slice a3 tt.length x3)) := fun wr hb => ⟨bcell hb e0, bcell hb n3⟩
   clear e0 n3
   go_enter Try.func25, Try.ntmps25
   go_wp2_with fail
   refine RR.out.mono ?_
   rintro e w3 ⟨rfl, hb3⟩
   clear hw2 c0 c1 c2 c3 c4 c5 c6 x0 x1 x2
   have hbw3 := Lib.hid (btrans hb2.out hb3)
   obtain ⟨c0, c1, c2, c3, c4, c5, c6, x0, x1, x2⟩ := CC.out w3 hb3
   go_upto_region 5 with (fail)
   go_cut [39] (fun c wx => c = .bool q ∧ Below w3.heap.size w3 wx)
   case first =>
    go_wp2_with fail
    refine (AL.out w3 hbw3.out).mono ?_
    rintro e w4 ⟨rfl, hb4⟩
    clear c0 c1 c2 c3 c4 c5 c6 x0 x1 x2
    obtain ⟨c0, c1, c2, c3, c4, c5, c6, x0, x1, x2⟩ := CC.out w4 (btrans hb3 hb4)
    by_cases h0 : 0 < m
    ·have h0'' : Hid (decide (0 < m) = true) := by show _ = _; simpa using h0
     have I2 := Lib.hid (IS.out w4 (btrans hbw3.out hb4) h0)
     go_wp2_with fail
     refine I2.out.mono ?_
     rintro e w5 ⟨rfl, hb5⟩
     clear c0 c1 c2 c3 c4 c5 c6 x0 x1 x2
     go_wp2
     go_meet
     exact ⟨by rw [hq.out, h0''.out]; rfl, btrans hb4 hb5⟩
    ·have h0'' : Hid (decide (0 < m) = false) := by show _ = _; simpa using h0
     go_wp2
     go_meet
     exact ⟨by rw [hq.out, h0''.out]; rfl, hb4⟩
   case rest =>
    obtain ⟨rfl, hwc⟩ := hcut
    clear c0 c1 c2 c3 c4 c5 c6 x0 x1 x2
    have hb4 := btrans hb3 hwc
    generalize wc = w4 at hb4 ⊢
    have hbw4 := Lib.hid (btrans hb2.out hb4)
    obtain ⟨c0, c1, c2, c3, c4, c5, c6, x0, x1, x2⟩ := CC.out w4 hb4
    go_upto_if 39 with (fail)
    go_cut [6] (fun v wx => v = .int .i64 T ∧ Below w4.heap.size w4 wx)
    case first =>
     cases q with
     | true =>
      have hT3 : Hid (T = ((t : Int) + 1) % (m : Int) ∧ 0 < m) := by
       have := hq.out
       simp at this
       show _ ∧ _
       rw [hT2.out, if_pos this]
       exact ⟨rfl, this.1⟩
      have h0 := hT3.out.2
      go_wp2_with fail
      refine (AL.out w4 hbw4.out).mono ?_
      rintro e w5 ⟨rfl, hb5⟩
      clear c0 c1 c2 c3 c4 c5 c6 x0 x1 x2
      go_wp2
      go_meet
      exact ⟨by rw [hT3.out.1], hb5⟩
     | false =>
      have hT3 : Hid (T = t) := by
       show _ = _
       have := hq.out
       rw [hT2.out, if_neg]
       rintro ⟨h1, h2⟩
       rw [h2, decide_eq_true h1] at this
       cases this
      go_wp2
      go_meet
      exact ⟨by rw [hT3.out], Below.refl _ _⟩
    case rest =>
     obtain ⟨rfl, hwc2⟩ := hcut
     clear c0 c1 c2 c3 c4 c5 c6 x0 x1 x2
     have hb5 := btrans hb4 hwc2
     generalize wc = w5 at hb5 ⊢
     have hbw5 := Lib.hid (btrans hb2.out hb5)
     replace hb5 := Lib.hid hb5
     clear RR AL IS hT2 hq
     go_wp2
     go_loopw [5, 7] (fun lv iv wr => ∃ (i : Nat) (l : List PP) (a : Option Addr) (c : Nat), i ≤ es.length ∧ iv = .int .i64 i ∧ lv = .slice a l.length c ∧ Hid (l = nextTo G T (es.take i) tt A) ∧ l.length ≤ i * 12 ∧ Hid (OwnQ wr w2.heap.size TRq a c l) ∧ Below w2.heap.size w2 wr) (fun _ iv _ => es.length - (intOf iv).toNat)
     case atStart => exact ⟨0, [], none, 0, Nat.zero_le _, rfl, rfl, rfl, Nat.zero_le _, OwnR.nil _ _ _ _, hb5.out⟩
     case round =>
      obtain ⟨i, l, a, c, hi, rfl, rfl, hs, hll, hO, hbr⟩ := hrel
      obtain ⟨c0, c1, c2, c3, c4, c5, c6, x0, x1, x2⟩ := CC.out wr hbr
      obtain ⟨e0, n3⟩ := EC.out wr (btrans hb2.out hbr)
      by_cases hlt : i < es.length
      ·have hi2 : (i : Int) < (es.length : Int) := by omega
       have hst : Hid (nextTo G T (es.take (i + 1)) tt A = pairsP A (labP G es[i].1) es[i].1 T l tt) := by
        show _ = _
        rw [List.take_add_one, List.getElem?_eq_getElem hlt, Option.toList_some, nextTo_snoc, ← hs.out]
       obtain ⟨ba, oa, ha2, _, f0, _⟩ := hp.out.at i hlt
       obtain ⟨n, hn⟩ : ∃ n, n = es[i].1 := ⟨_, rfl⟩
       rw [← hn] at hst f0
       have f0' := bcell (btrans hb2.out hbr) f0
       replace hn := Lib.hid hn
       replace hbr := Lib.hid hbr
       subst ha2
       clear hs f0
       go_wp2
       go_loopw [5, 9] (fun lv iv wr => ∃ (j : Nat) (l2 : List PP) (a : Option Addr) (c : Nat), j ≤ tt.length ∧ iv = .int .i64 j ∧ lv = .slice a l2.length c ∧ Hid (l2 = pairsP A (labP G n) n T l (tt.take j)) ∧ l2.length ≤ i * 12 + j ∧ Hid (OwnQ wr w2.heap.size TRq a c l2) ∧ Below w2.heap.size w2 wr) (fun _ iv _ => tt.length - (intOf iv).toNat)
       case atStart => exact ⟨0, l, a, c, Nat.zero_le _, rfl, rfl, rfl, by omega, hO, hbr.out⟩
       case round =>
        clear hO hbr c0 c1 c2 c3 c4 c5 c6 x0 x1 x2 e0 n3 f0'
        obtain ⟨j, l2, a, c, hj, rfl, rfl, hs, hll2, hO, hbr⟩ := hrel
        obtain ⟨c0, c1, c2, c3, c4, c5, c6, x0, x1, x2⟩ := CC.out _ hbr
        obtain ⟨e0, n3⟩ := EC.out _ (btrans hb2.out hbr)
        by_cases hlt2 : j < tt.length
        ·obtain ⟨b6, o6, q6, ha3, cq, hq⟩ := hto.out.at j hlt2
         have hq2 : q6 = tt[j] := by rw [hq.out, List.getD_eq_getElem?_getD, List.getElem?_eq_getElem hlt2]; rfl
         have hqr := htr.out _ (List.getElem_mem hlt2)
         rw [← hq2] at hqr
         obtain ⟨s, rfl⟩ := Int.eq_ofNat_of_zero_le hqr.1
         have hsn : s < A.nodes.length := by omega
         have hj2 : (j : Int) < (tt.length : Int) := by omega
         have hst2 := pairsP_snoc A (labP G n) n T l (tt.take j) s
         rw [← hs.out, hq2, show tt.take j ++ [tt[j]] = tt.take (j + 1) by rw [List.take_add_one, List.getElem?_eq_getElem hlt2, Option.toList_some], ← hq2] at hst2
         have RDs := Lib.hid (fun wr hb => RD.out wr hb s hsn n)
         generalize readsB (nodeP A s) (labP G n) = rd at RDs hst2
         replace hst2 := Lib.hid hst2
         have cq' := bcell (btrans hb2.out hbr) cq
         replace hbr := Lib.hid hbr
         clear hq hq2 hqr hs cq
         subst ha3
         go_upto_region 15 with (fail)
         have hbw := Lib.hid (btrans hb2.out hbr.out)
         go_region_held3 (fun w' => w'.cell? ⟨w.heap.size, 0, none⟩ = some (.slice ai G.init.length ci) ∧ w'.cell? ⟨w.heap.size, 1, none⟩ = some (.slice (some ⟨be, oe, none⟩) G.edges.length ce) ∧ w'.cell? ⟨w.heap.size, 2, none⟩ = some (.slice al G.labels.length cl) ∧ w'.cell? ⟨w.heap.size, 3, none⟩ = some (.slice as_ sets.length cs) ∧ w'.cell? ⟨w.heap.size, 4, none⟩ = some (.int .i64 A.sets) ∧ w'.cell? ⟨w.heap.size, 5, none⟩ = some (.slice bi A.init.length di) ∧ w'.cell? ⟨w.heap.size, 6, none⟩ = some (.slice (some ⟨b4, o4, none⟩) A.nodes.length dn) ∧ w'.cell? ⟨w.heap.size + 1, 0, none⟩ = some (.int .i64 (n0 : Int)) ∧ w'.cell? ⟨w.heap.size + 1, 1, none⟩ = some (.int .i64 (k : Int)) ∧ w'.cell? ⟨w.heap.size + 1, 2, none⟩ = some (.int .i64 (t : Int))) (first | exact CC.out _ B2 | exact CC.out _ B1 | exact CC.out _ hbr.out.drew | exact CC.out _ hbr.out) (first
          | (go_at_call 51; (with_reducible refine (LB.out _ hbw.out.drew n).mono ?_); rintro e w6 ⟨rfl, hb6⟩; have K1 : Below wr.heap.size wr w6 := btrans (Below.refl _ _).drew hb6; have B1 : Below w2.heap.size w2 w6 := btrans hbr.out K1)
          | (go_at_call 50; (with_reducible refine (RDs.out _ (btrans hb2.out B1)).mono ?_); rintro e w7 ⟨rfl, hb7⟩; have K2 : Below wr.heap.size wr w7 := btrans K1 hb7; have B2 : Below w2.heap.size w2 w7 := btrans B1 hb7))
         have hO4 : Hid (OwnQ w7 w2.heap.size TRq a c l2) := OwnR.keeps (S := fun _ => False) hO.out (Keeps.of_below K2) (fun _ _ h => h)
         replace B2 := Lib.hid B2
         clear c0 c1 c2 c3 c4 c5 c6 x0 x1 x2 e0 n3 cq' hO hbr B1 K1 K2 hb6 hb7
         cases rd with
         | false =>
          have hs3 : Hid (l2 = pairsP A (labP G n) n T l (tt.take (j + 1))) := by show _ = _; rw [hst2.out, if_neg (by decide)]
          clear hst2
          go_wp2
          go_roundw
          case rel => exact ⟨j + 1, l2, a, c, by omega, by go_num, rfl, hs3, by omega, hO4, B2.out⟩
          case measure => simp [intOf]; omega
         | true =>
          have hs3 : Hid (addP l2 ⟨n, s, T⟩ = pairsP A (labP G n) n T l (tt.take (j + 1))) := by show _ = _; rw [hst2.out, if_pos rfl]
          have AD := Lib.hid (radd_any w7 w2.heap.size B2.out.size a c l2 hO4.out ⟨n, s, T⟩ (by omega))
          have hal := addP_len l2 ⟨n, s, T⟩
          generalize addP l2 ⟨n, s, T⟩ = l3 at hs3 AD hal
          clear hst2
          go_wp2_with fail
          refine AD.out.mono ?_
          rintro e w8 ⟨a8, c8, rfl, hO8, hK8, _⟩
          have hb8 := hK8.below B2.out (fun j hj => (OwnR.lt hO4.out hj).1)
          replace hO8 := Lib.hid hO8
          clear hK8
          go_wp2
          go_roundw
          case rel => exact ⟨j + 1, l3, a8, c8, by omega, by go_num, rfl, hs3, by omega, hO8, hb8⟩
          case measure => simp [intOf]; omega
        ·have hke : j = tt.length := by omega
         subst hke
         rw [List.take_length] at hs
         replace hbr := Lib.hid hbr
         go_wp2
         go_roundw
         case rel => exact ⟨i + 1, l2, a, c, by omega, by go_num, rfl, hs.out.trans hst.out.symm, by omega, hO, hbr.out⟩
         case measure => simp [intOf]; omega
      ·have hie : i = es.length := by omega
       subst hie
       rw [List.take_length] at hs
       replace hbr := Lib.hid hbr
       go_wp2
       go_ret
       rw [← hs.out]
       exact ⟨a, c, rfl, OwnR.lower hO.out hsz.out, btrans hb2.out hbr.out⟩
  ·have hin : inG G.edges.length xn = false := by simpa using hin
   have hr : Hid (nextP G sets A ⟨xn, xs, xt⟩ = []) := by show _ = _; rw [hN.out]; unfold edgesP; rw [hin]; rfl
   rw [hr.out]
   clear hr hN hi
   by_cases h0 : xn < 0
   ·have h0' : decide (xn < 0) = true := by simpa using h0
    clear hin
    go_enter Try.func25, Try.ntmps25
    go_wp2_with fail
    refine RR.out.mono ?_
    rintro e w3 ⟨rfl, hb3⟩
    clear hw2 c0 c1 c2 c3 c4 c5 c6 x0 x1 x2
    obtain ⟨c0, c1, c2, c3, c4, c5, c6, x0, x1, x2⟩ := CC.out w3 hb3
    go_wp2
    go_ret
    exact ⟨none, 0, rfl, OwnR.nil _ _ _ _, btrans hb2.out hb3⟩
   ·have h0' : decide (xn < 0) = false := by simpa using h0
    rw [inG_yes (by omega)] at hin
    have h1 : (G.edges.length : Int) ≤ xn := by simpa using hin
    clear hin
    go_enter Try.func25, Try.ntmps25
    go_wp2_with fail
    refine RR.out.mono ?_
    rintro e w3 ⟨rfl, hb3⟩
    clear hw2 c0 c1 c2 c3 c4 c5 c6 x0 x1 x2
    obtain ⟨c0, c1, c2, c3, c4, c5, c6, x0, x1, x2⟩ := CC.out w3 hb3
    go_wp2
    go_ret
    exact ⟨none, 0, rfl, OwnR.nil _ _ _ _, btrans hb2.out hb3⟩
end Go.Proofs.Ytfcpfcgcfaacnaa
namespace Go.Proofs.Ytfcpfcgcfaacnaa
open Go.RowKit
set_option maxRecDepth 20000 in
set_option maxHeartbeats 8000000 in
theorem redge_any (w : World) (X : RX) (G : GR) (sets : List (List Bool)) (A : AU) (h : RpA w X G sets A) (x y : PP) :
  Calls Try.prog 47 #[rpv X G sets A, ppv x, ppv y] w fun e w' => e = .returned (.tuple #[edv (edgeP G sets A x y), .bool (edgeP G sets A x y).isSome]) ∧ Below w.heap.size w w' := by
 have rp := RowAt.new (w := w) (T := TRP) #[.slice X.ai G.init.length X.ci, .slice X.ae G.edges.length X.ce, .slice X.al G.labels.length X.cl, .slice X.as_ sets.length X.cs, .int .i64 A.sets, .slice X.bi A.init.length X.di, .slice X.bn A.nodes.length X.dn] rfl
 have z1 : (w.alloc (.cells #[.slice X.ai G.init.length X.ci, .slice X.ae G.edges.length X.ce, .slice X.al G.labels.length X.cl, .slice X.as_ sets.length X.cs, .int .i64 A.sets, .slice X.bi A.init.length X.di, .slice X.bn A.nodes.length X.dn] TRP)).heap.size = w.heap.size + 1 := by simp
 have ra := RowAt.new (w := w.alloc (.cells #[.slice X.ai G.init.length X.ci, .slice X.ae G.edges.length X.ce, .slice X.al G.labels.length X.cl, .slice X.as_ sets.length X.cs, .int .i64 A.sets, .slice X.bi A.init.length X.di, .slice X.bn A.nodes.length X.dn] TRP)) (T := TRq) #[.int .i64 x.node, .int .i64 x.state, .int .i64 x.turn] rfl
 have z2 : ((w.alloc (.cells #[.slice X.ai G.init.length X.ci, .slice X.ae G.edges.length X.ce, .slice X.al G.labels.length X.cl, .slice X.as_ sets.length X.cs, .int .i64 A.sets, .slice X.bi A.init.length X.di, .slice X.bn A.nodes.length X.dn] TRP)).alloc (.cells #[.int .i64 x.node, .int .i64 x.state, .int .i64 x.turn] TRq)).heap.size = w.heap.size + 1 + 1 := by simp
 have rb := RowAt.new (w := (w.alloc (.cells #[.slice X.ai G.init.length X.ci, .slice X.ae G.edges.length X.ce, .slice X.al G.labels.length X.cl, .slice X.as_ sets.length X.cs, .int .i64 A.sets, .slice X.bi A.init.length X.di, .slice X.bn A.nodes.length X.dn] TRP)).alloc (.cells #[.int .i64 x.node, .int .i64 x.state, .int .i64 x.turn] TRq)) (T := TRq) #[.int .i64 y.node, .int .i64 y.state, .int .i64 y.turn] rfl
 have z3 : (((w.alloc (.cells #[.slice X.ai G.init.length X.ci, .slice X.ae G.edges.length X.ce, .slice X.al G.labels.length X.cl, .slice X.as_ sets.length X.cs, .int .i64 A.sets, .slice X.bi A.init.length X.di, .slice X.bn A.nodes.length X.dn] TRP)).alloc (.cells #[.int .i64 x.node, .int .i64 x.state, .int .i64 x.turn] TRq)).alloc (.cells #[.int .i64 y.node, .int .i64 y.state, .int .i64 y.turn] TRq)).heap.size = w.heap.size + 1 + 1 + 1 := by simp
 have re := RowAt.new (w := ((w.alloc (.cells #[.slice X.ai G.init.length X.ci, .slice X.ae G.edges.length X.ce, .slice X.al G.labels.length X.cl, .slice X.as_ sets.length X.cs, .int .i64 A.sets, .slice X.bi A.init.length X.di, .slice X.bn A.nodes.length X.dn] TRP)).alloc (.cells #[.int .i64 x.node, .int .i64 x.state, .int .i64 x.turn] TRq)).alloc (.cells #[.int .i64 y.node, .int .i64 y.state, .int .i64 y.turn] TRq)) (T := TE) #[.int .i64 0, .int .i64 0] rfl
 have rp' := ((rp.alloc (.cells #[.int .i64 x.node, .int .i64 x.state, .int .i64 x.turn] TRq)).alloc (.cells #[.int .i64 y.node, .int .i64 y.state, .int .i64 y.turn] TRq)).alloc (.cells #[.int .i64 0, .int .i64 0] TE)
 have ra' := (ra.alloc (.cells #[.int .i64 y.node, .int .i64 y.state, .int .i64 y.turn] TRq)).alloc (.cells #[.int .i64 0, .int .i64 0] TE)
 have rb' := rb.alloc (.cells #[.int .i64 0, .int .i64 0] TE)
 rw [z1] at ra'
 rw [z2] at rb'
 rw [z3] at re
 have hb4 := balloc (balloc (balloc (balloc (Below.refl w.heap.size w) (.cells #[.slice X.ai G.init.length X.ci, .slice X.ae G.edges.length X.ce, .slice X.al G.labels.length X.cl, .slice X.as_ sets.length X.cs, .int .i64 A.sets, .slice X.bi A.init.length X.di, .slice X.bn A.nodes.length X.dn] TRP)) (.cells #[.int .i64 x.node, .int .i64 x.state, .int .i64 x.turn] TRq)) (.cells #[.int .i64 y.node, .int .i64 y.state, .int .i64 y.turn] TRq)) (.cells #[.int .i64 0, .int .i64 0] TE)
 have hsz : ((((w.alloc (.cells #[.slice X.ai G.init.length X.ci, .slice X.ae G.edges.length X.ce, .slice X.al G.labels.length X.cl, .slice X.as_ sets.length X.cs, .int .i64 A.sets, .slice X.bi A.init.length X.di, .slice X.bn A.nodes.length X.dn] TRP)).alloc (.cells #[.int .i64 x.node, .int .i64 x.state, .int .i64 x.turn] TRq)).alloc (.cells #[.int .i64 y.node, .int .i64 y.state, .int .i64 y.turn] TRq)).alloc (.cells #[.int .i64 0, .int .i64 0] TE)).heap.size = w.heap.size + 1 + 1 + 1 + 1 := by simp
 have NX := Lib.hid (fun wr (hb : Below w.heap.size w wr) => rnext_any wr X G sets A (h.below hb) x)
 have hnl := nextP_len h.lt x
 have hel := edgesP_len h.lt x.node
 obtain ⟨R, hR⟩ : ∃ R, R = edgeP G sets A x y := ⟨_, rfl⟩
 rw [← hR]
 replace hR : Hid (R = if y ∈ nextP G sets A x then (edgesP G x.node).find? (fun e => e.1 == y.node) else none) := hR
 have hin : Hid (y ∈ nextP G sets A x → inG G.edges.length x.node = true) := fun hm => by
  cases hi : inG G.edges.length x.node with
  | true => rfl
  | false =>
   unfold nextP edgesP at hm
   rw [hi] at hm
   split at hm <;> simp at hm
 obtain ⟨nl, hnle⟩ : ∃ nl, nl = nextP G sets A x := ⟨_, rfl⟩
 rw [← hnle] at NX hnl hR hin
 obtain ⟨es, hes⟩ : ∃ es, es = edgesP G x.node := ⟨_, rfl⟩
 rw [← hes] at hel hR
 have hE : Hid (∀ n0 : Nat, x.node = n0 → inG G.edges.length x.node = true → ∃ be oe a2 c2, X.ae = some ⟨be, oe, none⟩ ∧ n0 < G.edges.length ∧ PairsAt w a2 es ∧ w.cell? ⟨be, oe + n0, none⟩ = some (.slice a2 es.length c2)) := fun n0 hx hi => by
  have hi2 := hi
  unfold inG at hi2
  simp only [Bool.and_eq_true, decide_eq_true_eq] at hi2
  have hn0 : n0 < G.edges.length := by omega
  obtain ⟨be, oe, a2, c2', hae, _, e0, _, hp⟩ := h.g.edges.at n0 hn0
  have : es = G.edges[n0] := by rw [hes, hx]; rw [hx] at hi; unfold edgesP; rw [hi, if_pos rfl]; simp [List.getD, hn0]
  rw [← this] at hp e0
  exact ⟨be, oe, a2, c2', hae, hn0, hp, e0⟩
 obtain ⟨xn, xs, xt⟩ := x
 obtain ⟨yn, ys, yt⟩ := y
 simp only at rp' ra' rb' re hb4 hsz NX hR hin hE
 obtain ⟨w4, hw4⟩ : ∃ w4, (((w.alloc (.cells #[.slice X.ai G.init.length X.ci, .slice X.ae G.edges.length X.ce, .slice X.al G.labels.length X.cl, .slice X.as_ sets.length X.cs, .int .i64 A.sets, .slice X.bi A.init.length X.di, .slice X.bn A.nodes.length X.dn] TRP)).alloc (.cells #[.int .i64 xn, .int .i64 xs, .int .i64 xt] TRq)).alloc (.cells #[.int .i64 yn, .int .i64 ys, .int .i64 yt] TRq)).alloc (.cells #[.int .i64 0, .int .i64 0] TE) = w4 := ⟨_, rfl⟩
 rw [hw4] at rp' ra' rb' re hb4 hsz
 have CC : Hid (∀ wr, Below w4.heap.size w4 wr → wr.cell? ⟨w.heap.size, 0, none⟩ = some (.slice X.ai G.init.length X.ci) ∧ wr.cell? ⟨w.heap.size, 1, none⟩ = some (.slice X.ae G.edges.length X.ce) ∧ wr.cell? ⟨w.heap.size, 2, none⟩ = some (.slice X.al G.labels.length X.cl) ∧ wr.cell? ⟨w.heap.size, 3, none⟩ = some (.slice X.as_ sets.length X.cs) ∧ wr.cell? ⟨w.heap.size, 4, none⟩ = some (.int .i64 A.sets) ∧ wr.cell? ⟨w.heap.size, 5, none⟩ = some (.slice X.bi A.init.length X.di) ∧ wr.cell? ⟨w.heap.size, 6, none⟩ = some (.slice X.bn A.nodes.length X.dn) ∧ wr.cell? ⟨w.heap.size + 1, 0, none⟩ = some (.int .i64 xn) ∧ wr.cell? ⟨w.heap.size + 1, 1, none⟩ = some (.int .i64 xs) ∧ wr.cell? ⟨w.heap.size + 1, 2, none⟩ = some (.int .i64 xt) ∧ wr.cell? ⟨w.heap.size + 1 + 1, 0, none⟩ = some (.int .i64 yn) ∧ wr.cell? ⟨w.heap.size + 1 + 1, 1, none⟩ = some (.int .i64 ys) ∧ wr.cell? ⟨w.heap.size + 1 + 1, 2, none⟩ = some (.int .i64 yt)) := fun wr hb => by
  have p := rp'.below hb
  have a := ra'.below hb
  have b := rb'.below hb
  exact ⟨p.cell 0, p.cell 1, p.cell 2, p.cell 3, p.cell 4, p.cell 5, p.cell 6, a.cell 0, a.cell 1, a.cell 2, b.cell 0, b.cell 1, b.cell 2⟩
 obtain ⟨c0, c1, c2, c3, c4, c5, c6, x0, x1, x2, y0, y1, y2⟩ := CC.out w4 (Below.refl _ _)
 replace hb4 := Lib.hid hb4
 replace re := Lib.hid re
 clear rp ra rb rp' ra' rb' z1 z2 z3 h hnle hes
 go_enter Try.func47, Try.ntmps47
 go_wp2_with fail
 refine (NX.out w4 hb4.out).mono ?_
 rintro e w5 ⟨an, cn, rfl, hO, hb5⟩
 clear hw4 c0 c1 c2 c3 c4 c5 c6 x0 x1 x2 y0 y1 y2 NX
 obtain ⟨c0, c1, c2, c3, c4, c5, c6, x0, x1, x2, y0, y1, y2⟩ := CC.out w5 hb5
 have hP := Lib.hid (PpsAt.of_own hO)
 replace hb5 := Lib.hid hb5
 clear hO
 go_wp2
 go_loopw [8, 10] (fun bv iv wr => ∃ (k m : Nat) (b : Bool), bv = .bool b ∧ Hid (b = decide ((⟨yn, ys, yt⟩ : PP) ∈ nl.take k)) ∧ k ≤ nl.length ∧ iv = .int .i64 k ∧ wr = w5.drewN m) (fun _ iv _ => nl.length - (intOf iv).toNat)
 case atStart => exact ⟨0, 0, false, rfl, by simp [Hid], Nat.zero_le _, rfl, rfl⟩
 case round =>
  obtain ⟨k, m, b, rfl, hbk, hk, rfl, rfl⟩ := hrel
  by_cases hlt : k < nl.length
  ·have hk2 : (k : Int) < (nl.length : Int) := by omega
   obtain ⟨g, off, ha, _, f0, f1, f2⟩ := hP.out.at k hlt
   have hst : Hid (decide ((⟨yn, ys, yt⟩ : PP) ∈ nl.take (k + 1)) = (b || decide (nl[k] = ⟨yn, ys, yt⟩))) := by
    show _ = _
    have hm : (⟨yn, ys, yt⟩ : PP) ∈ nl.take (k + 1) ↔ ((⟨yn, ys, yt⟩ : PP) ∈ nl.take k ∨ nl[k] = ⟨yn, ys, yt⟩) := by
     rw [List.take_add_one, List.getElem?_eq_getElem hlt, Option.toList_some, List.mem_append, List.mem_singleton, eq_comm (a := (⟨yn, ys, yt⟩ : PP)) (b := nl[k])]
    rw [hbk.out, decide_eq_decide.2 hm, Bool.decide_or]
   generalize nl[k] = z at f0 f1 f2 hst
   obtain ⟨zn, zs, zt⟩ := z
   simp only at f0 f1 f2
   subst ha
   clear hbk
   cases b with
   | true =>
    have hs2 : Hid (true = decide ((⟨yn, ys, yt⟩ : PP) ∈ nl.take (k + 1))) := by show _ = _; rw [hst.out]; rfl
    clear hst
    go_wp2
    go_quiet (fail)
    go_wp2
    go_roundw
    case rel => exact ⟨k + 1, _, true, rfl, hs2, by omega, by go_num, by first | rfl | exact World.drewN_drewN _ _ _⟩
    case measure => simp [intOf]; omega
   | false =>
    by_cases h1 : zn = yn
    ·subst h1
     by_cases h2 : zs = ys
     ·subst h2
      by_cases h3 : zt = yt
      ·subst h3
       have hs2 : Hid (true = decide ((⟨zn, zs, zt⟩ : PP) ∈ nl.take (k + 1))) := by show _ = _; rw [hst.out]; simp
       clear hst
       go_wp2
       go_quiet (fail)
       go_wp2
       go_roundw
       case rel => exact ⟨k + 1, _, true, rfl, hs2, by omega, by go_num, by first | rfl | exact World.drewN_drewN _ _ _⟩
       case measure => simp [intOf]; omega
      ·have hz : (zt == yt) = false := by simpa using h3
       have hs2 : Hid (false = decide ((⟨zn, zs, yt⟩ : PP) ∈ nl.take (k + 1))) := by show _ = _; rw [hst.out]; simp [h3]
       clear hst h3
       go_wp2
       go_quiet (fail)
       go_wp2
       go_roundw
       case rel => exact ⟨k + 1, _, false, rfl, hs2, by omega, by go_num, by first | rfl | exact World.drewN_drewN _ _ _⟩
       case measure => simp [intOf]; omega
     ·have hz : (zs == ys) = false := by simpa using h2
      have hs2 : Hid (false = decide ((⟨zn, ys, yt⟩ : PP) ∈ nl.take (k + 1))) := by show _ = _; rw [hst.out]; simp [h2]
      clear hst h2
      go_wp2
      go_quiet (fail)
      go_wp2
      go_roundw
      case rel => exact ⟨k + 1, _, false, rfl, hs2, by omega, by go_num, by first | rfl | exact World.drewN_drewN _ _ _⟩
      case measure => simp [intOf]; omega
    ·have hz : (zn == yn) = false := by simpa using h1
     have hs2 : Hid (false = decide ((⟨yn, ys, yt⟩ : PP) ∈ nl.take (k + 1))) := by show _ = _; rw [hst.out]; simp [h1]
     clear hst h1
     go_wp2
     go_quiet (fail)
     go_wp2
     go_roundw
     case rel => exact ⟨k + 1, _, false, rfl, hs2, by omega, by go_num, by first | rfl | exact World.drewN_drewN _ _ _⟩
     case measure => simp [intOf]; omega
  ·obtain rfl : k = nl.length := by omega
   rw [List.take_length] at hbk
   clear c0 c1 c2 c3 c4 c5 c6 x0 x1 x2 y0 y1 y2
   have hb6 : Below w4.heap.size w4 (w5.drewN m) := bdrewN hb5.out m
   generalize w5.drewN m = w6 at hb6 ⊢
   have hb6' := Lib.hid (btrans hb4.out hb6)
   have re6 := Lib.hid (re.out.below hb6)
   have v0 : w6.cell? ⟨w.heap.size + 1 + 1 + 1, 0, none⟩ = some (.int .i64 0) := re6.out.cell 0
   have g0 : w6.frozen? ⟨w.heap.size + 1 + 1 + 1, 0, none⟩ = false := re6.out.free 0
   have v1 : w6.cell? ⟨w.heap.size + 1 + 1 + 1, 1, none⟩ = some (.int .i64 0) := re6.out.cell 1
   have g1 : w6.frozen? ⟨w.heap.size + 1 + 1 + 1, 1, none⟩ = false := re6.out.free 1
   have hz6 : w.heap.size + 1 + 1 + 1 + 1 ≤ w6.heap.size := by have := hb6.size; omega
   cases b with
   | false =>
    have hR2 : Hid (R = none) := by
     show _ = _
     have := hbk.out
     rw [hR.out, if_neg (by intro hm; rw [decide_eq_true hm] at this; cases this)]
    clear hbk
    go_wp2
    have rE := Lib.hid ((re6.out.set 0 (.int .i64 0)).set 1 (.int .i64 0))
    have f0 := rE.out.cell 0
    have f1 := rE.out.cell 1
    refine bodyPost_ret (v := .tuple #[.agg #[.int .i64 0, .int .i64 0], .bool false]) (by simp [results, Try.results47, go_sem, f0, f1]) rfl ⟨by rw [hR2.out]; rfl, bsetN (bsetN hb6'.out (by omega)) (by omega)⟩
   | true =>
    have hm : (⟨yn, ys, yt⟩ : PP) ∈ nl := by have := hbk.out; simpa using this.symm
    have hR2 : Hid (R = es.find? (fun e => e.1 == yn)) := by show _ = _; rw [hR.out, if_pos hm]
    have hi := hin.out hm
    have hx0 : 0 ≤ xn := by unfold inG at hi; simp at hi; exact hi.1
    obtain ⟨n0, rfl⟩ := Int.eq_ofNat_of_zero_le hx0
    obtain ⟨be, oe, a2, c2', hae, hn0, hp, e0⟩ := hE.out n0 rfl hi
    have hn02 : (n0 : Int) < (G.edges.length : Int) := by omega
    have e6 := bcell hb6'.out e0
    have hp6 := Lib.hid (hp.below hb6'.out)
    obtain ⟨c0, c1, c2, c3, c4, c5, c6, x0, x1, x2, y0, y1, y2⟩ := CC.out w6 hb6
    replace hb6 := Lib.hid hb6
    clear hbk hm hR hi hx0 hE hin hp e0 hn0 hP hb5
    obtain ⟨ai, ae, al, as_, bi, bn, ci, ce, cl, cs, di, dn⟩ := X
    dsimp only at hae c0 c1 c2 c3 c4 c5 c6 CC
    subst hae
    go_wp2
    go_loopw [7, 11, 51] (fun bv iv _ wr => ∃ k : Nat, bv = .bool false ∧ k ≤ es.length ∧ iv = .int .i64 k ∧ Below w6.heap.size w6 wr ∧ Hid ((es.take k).find? (fun e => e.1 == yn) = none)) (fun _ iv _ _ => es.length - (intOf iv).toNat)
    case atStart => exact ⟨0, rfl, Nat.zero_le _, rfl, Below.refl _ _, rfl⟩
    case round =>
     obtain ⟨k, rfl, hk, rfl, hbr, hn⟩ := hrel
     clear c0 c1 c2 c3 c4 c5 c6 x0 x1 x2 y0 y1 y2 v0 v1 g0 g1
     obtain ⟨c0, c1, c2, c3, c4, c5, c6, x0, x1, x2, y0, y1, y2⟩ := CC.out wr (btrans hb6.out hbr)
     have e7 := bcell hbr e6
     by_cases hlt : k < es.length
     ·obtain ⟨g, off, ha0, hgl, f0, f1⟩ := (hp6.out.below hbr).at k hlt
      have hst : Hid (∀ o, (if es[k].1 == yn then some es[k] else none) = o → (es.take (k + 1)).find? (fun e => e.1 == yn) = o) := fun o ho => by
       rw [List.take_add_one, List.getElem?_eq_getElem hlt, Option.toList_some, List.find?_append, hn.out, ← ho]
       simp only [Option.none_or, List.find?_cons, List.find?_nil]
       cases es[k].1 == yn <;> rfl
      have hfin : Hid (es[k].1 = yn → R = some es[k]) := fun he => by
       rw [hR2.out]
       have h1 := hst.out _ rfl
       rw [he, if_pos (by simp)] at h1
       calc es.find? (fun e => e.1 == yn) = (es.take (k + 1) ++ es.drop (k + 1)).find? (fun e => e.1 == yn) := by rw [List.take_append_drop]
        _ = some es[k] := by rw [List.find?_append, h1]; rfl
      obtain ⟨ev, hev⟩ : ∃ ev, ev = es[k] := ⟨_, rfl⟩
      rw [← hev] at f0 f1 hst hfin
      obtain ⟨u, v⟩ := ev
      simp only at f0 f1 hst hfin
      have hlt2 : (k : Int) < (es.length : Int) := by omega
      subst ha0
      replace hbr := Lib.hid hbr
      clear hev hn
      by_cases huv : u = yn
      ·have hub : (u == yn) = true := by simpa using huv
       have hr := Lib.hid (hfin.out huv)
       clear hst hfin huv
       go_wp2
       go_quiet (fail)
       obtain ⟨w7, hw7⟩ : ∃ w7, wr.drewN nq = w7 := ⟨_, rfl⟩
       have hb7 : Below wr.heap.size wr w7 := by rw [← hw7]; exact bdrewN (Below.refl _ _) nq
       rw [hw7]
       have f0' := bcell hb7 f0
       have f1' := bcell hb7 f1
       have e8 := bcell hb7 e7
       have r7 := Lib.hid (re6.out.below (btrans hbr.out hb7))
       have hbw7 := Lib.hid (btrans hb6'.out (btrans hbr.out hb7))
       clear hw7 f0 f1 e7 c0 c1 c2 c3 c4 c5 c6 x0 x1 x2 y0 y1 y2
       obtain ⟨c0, c1, c2, c3, c4, c5, c6, x0, x1, x2, y0, y1, y2⟩ := CC.out w7 (btrans hb6.out (btrans hbr.out hb7))
       replace hb7 := Lib.hid hb7
       have v0 : w7.cell? ⟨w.heap.size + 1 + 1 + 1, 0, none⟩ = some (.int .i64 0) := r7.out.cell 0
       have g0 : w7.frozen? ⟨w.heap.size + 1 + 1 + 1, 0, none⟩ = false := r7.out.free 0
       have v1 : w7.cell? ⟨w.heap.size + 1 + 1 + 1, 1, none⟩ = some (.int .i64 0) := r7.out.cell 1
       have g1 : w7.frozen? ⟨w.heap.size + 1 + 1 + 1, 1, none⟩ = false := r7.out.free 1
       go_wp2
       have rE := Lib.hid ((r7.out.set 0 (.int .i64 u)).set 1 (.int .i64 v))
       have k0 := rE.out.cell 0
       have k1 := rE.out.cell 1
       refine bodyPost_ret (v := .tuple #[.agg #[.int .i64 u, .int .i64 v], .bool true]) (by simp [results, Try.results47, go_sem, k0, k1]) rfl ⟨by rw [hr.out]; rfl, bsetN (bsetN hbw7.out (by omega)) (by omega)⟩
      ·have hub : (u == yn) = false := by simpa using huv
       have hs2 : Hid ((es.take (k + 1)).find? (fun e => e.1 == yn) = none) := hst.out _ (by rw [hub]; rfl)
       clear hst hfin huv
       go_wp2
       go_quiet (fail)
       go_wp2
       go_roundw
       case rel => exact ⟨k + 1, rfl, by omega, by go_num, btrans hbr.out (bdrewN (Below.refl _ _) _), hs2⟩
       case measure => simp [intOf]; omega
     ·have hke : k = es.length := by omega
      subst hke
      rw [List.take_length] at hn
      have hR3 : Hid (R = none) := hR2.out.trans hn.out
      have r7 := Lib.hid (re6.out.below hbr)
      have hb7 := Lib.hid (btrans hb6'.out hbr)
      have v0 : wr.cell? ⟨w.heap.size + 1 + 1 + 1, 0, none⟩ = some (.int .i64 0) := r7.out.cell 0
      have g0 : wr.frozen? ⟨w.heap.size + 1 + 1 + 1, 0, none⟩ = false := r7.out.free 0
      have v1 : wr.cell? ⟨w.heap.size + 1 + 1 + 1, 1, none⟩ = some (.int .i64 0) := r7.out.cell 1
      have g1 : wr.frozen? ⟨w.heap.size + 1 + 1 + 1, 1, none⟩ = false := r7.out.free 1
      go_wp2
      have rE := Lib.hid ((r7.out.set 0 (.int .i64 0)).set 1 (.int .i64 0))
      have k0 := rE.out.cell 0
      have k1 := rE.out.cell 1
      refine bodyPost_ret (v := .tuple #[.agg #[.int .i64 0, .int .i64 0], .bool false]) (by simp [results, Try.results47, go_sem, k0, k1]) rfl ⟨by rw [hR3.out]; rfl, bsetN (bsetN hb7.out (by omega)) (by omega)⟩
end Go.Proofs.Ytfcpfcgcfaacnaa
namespace Go.Proofs.Ytfcpfcgcfaacnaa
open Go.RowKit
abbrev rz : List Value := [.slice none 0 0, .slice none 0 0, .slice none 0 0, .slice none 0 0, .int .i64 0, .slice none 0 0, .slice none 0 0]
set_option maxHeartbeats 4000000 in
theorem rnew_any (w : World) (X : RX) (G : GR) (sets : List (List Bool)) (A : AU) (hG : GAt w X.ai X.ae X.al G) (ok : GOk G) (hS : SetsAt w X.as_ sets) (hA : AuAt w X.bi A.init.length X.bn A.nodes.length A) (aok : AuOk A) :
  Calls Try.prog 11 #[gv X G, .slice X.as_ sets.length X.cs, av X A] w fun e w' => e = .returned (.tuple #[if newB G sets A = true then rpv X G sets A else .agg rz.toArray, .bool (newB G sets A)]) ∧ Below w.heap.size w w' := by
 have rg := RowAt.new (w := w) (T := TG) #[.slice X.ai G.init.length X.ci, .slice X.ae G.edges.length X.ce, .slice X.al G.labels.length X.cl] rfl
 have hz1 : (w.alloc (.cells #[.slice X.ai G.init.length X.ci, .slice X.ae G.edges.length X.ce, .slice X.al G.labels.length X.cl] TG)).heap.size = w.heap.size + 1 := by simp
 have ra := RowAt.new (w := w.alloc (.cells #[.slice X.ai G.init.length X.ci, .slice X.ae G.edges.length X.ce, .slice X.al G.labels.length X.cl] TG)) (T := 30) #[.int .i64 A.sets, .slice X.bi A.init.length X.di, .slice X.bn A.nodes.length X.dn] rfl
 have hz2 : ((w.alloc (.cells #[.slice X.ai G.init.length X.ci, .slice X.ae G.edges.length X.ce, .slice X.al G.labels.length X.cl] TG)).alloc (.cells #[.int .i64 A.sets, .slice X.bi A.init.length X.di, .slice X.bn A.nodes.length X.dn] 30)).heap.size = w.heap.size + 1 + 1 := by simp
 have rr := RowAt.new (w := (w.alloc (.cells #[.slice X.ai G.init.length X.ci, .slice X.ae G.edges.length X.ce, .slice X.al G.labels.length X.cl] TG)).alloc (.cells #[.int .i64 A.sets, .slice X.bi A.init.length X.di, .slice X.bn A.nodes.length X.dn] 30)) (T := TRP) rz.toArray rfl
 have rg' := (rg.alloc (.cells #[.int .i64 A.sets, .slice X.bi A.init.length X.di, .slice X.bn A.nodes.length X.dn] 30)).alloc (.cells rz.toArray TRP)
 have ra' := ra.alloc (.cells rz.toArray TRP)
 rw [hz1] at ra'
 rw [hz2] at rr
 have hb3 := balloc (balloc (balloc (Below.refl w.heap.size w) (.cells #[.slice X.ai G.init.length X.ci, .slice X.ae G.edges.length X.ce, .slice X.al G.labels.length X.cl] TG)) (.cells #[.int .i64 A.sets, .slice X.bi A.init.length X.di, .slice X.bn A.nodes.length X.dn] 30)) (.cells rz.toArray TRP)
 obtain ⟨w3, hw3⟩ : ∃ w3, ((w.alloc (.cells #[.slice X.ai G.init.length X.ci, .slice X.ae G.edges.length X.ce, .slice X.al G.labels.length X.cl] TG)).alloc (.cells #[.int .i64 A.sets, .slice X.bi A.init.length X.di, .slice X.bn A.nodes.length X.dn] 30)).alloc (.cells rz.toArray TRP) = w3 := ⟨_, rfl⟩
 rw [hw3] at rg' ra' rr hb3
 have SR := fun wr (hb : Below w.heap.size w wr) => rsource_any wr X G sets (hG.below hb) ok (hS.below hb)
 have CR := fun wr (hb : Below w.heap.size w wr) => rcheck_any wr X.bi X.bn X.di X.dn A (hA.below hb) aok
 have hz : newB G sets A = (srcB G sets && decide (chk A = 0)) := rfl
 rw [hz]
 generalize srcB G sets = s at SR ⊢
 generalize chk A = c at CR ⊢
 replace SR := Lib.hid SR
 replace CR := Lib.hid CR
 have CC : Hid (∀ wr, Below w3.heap.size w3 wr → RowAt wr w.heap.size TG [.slice X.ai G.init.length X.ci, .slice X.ae G.edges.length X.ce, .slice X.al G.labels.length X.cl] ∧ RowAt wr (w.heap.size + 1) 30 [.int .i64 A.sets, .slice X.bi A.init.length X.di, .slice X.bn A.nodes.length X.dn] ∧ RowAt wr (w.heap.size + 1 + 1) TRP rz) := fun wr hb => ⟨rg'.below hb, ra'.below hb, rr.below hb⟩
 have g0 : w3.cell? ⟨w.heap.size, 0, none⟩ = some (.slice X.ai G.init.length X.ci) := rg'.cell 0
 have g1 : w3.cell? ⟨w.heap.size, 1, none⟩ = some (.slice X.ae G.edges.length X.ce) := rg'.cell 1
 have g2 : w3.cell? ⟨w.heap.size, 2, none⟩ = some (.slice X.al G.labels.length X.cl) := rg'.cell 2
 replace hb3 := Lib.hid hb3
 obtain ⟨b, hb⟩ : ∃ b, b = (s && decide (c = 0)) := ⟨_, rfl⟩
 rw [← hb]
 replace hb := Lib.hid hb
 obtain ⟨V, hV⟩ : ∃ V, V = (if b = true then rpv X G sets A else .agg rz.toArray) := ⟨_, rfl⟩
 rw [← hV]
 replace hV := Lib.hid hV
 clear hG ok hS hA aok rg ra rr rg' ra' hz1 hz2 hz
 go_enter Try.func11, Try.ntmps11
 go_wp2_with fail
 refine (SR.out w3 hb3.out).mono ?_
 rintro e w4 ⟨rfl, hb4⟩
 clear g0 g1 g2 hw3
 obtain ⟨r0, r1, r2⟩ := CC.out w4 hb4
 replace r0 := Lib.hid r0
 replace r1 := Lib.hid r1
 replace r2 := Lib.hid r2
 have hb4' := Lib.hid (btrans hb3.out hb4)
 cases s with
 | false =>
  have hbv : Hid (b = false) := by show _ = _; rw [hb.out]; rfl
  have u0 : w4.cell? ⟨w.heap.size + 1 + 1, 0, none⟩ = some (.slice none 0 0) := r2.out.cell 0
  have vu0 : w4.frozen? ⟨w.heap.size + 1 + 1, 0, none⟩ = false := r2.out.free 0
  have u1 : w4.cell? ⟨w.heap.size + 1 + 1, 1, none⟩ = some (.slice none 0 0) := r2.out.cell 1
  have vu1 : w4.frozen? ⟨w.heap.size + 1 + 1, 1, none⟩ = false := r2.out.free 1
  have u2 : w4.cell? ⟨w.heap.size + 1 + 1, 2, none⟩ = some (.slice none 0 0) := r2.out.cell 2
  have vu2 : w4.frozen? ⟨w.heap.size + 1 + 1, 2, none⟩ = false := r2.out.free 2
  have u3 : w4.cell? ⟨w.heap.size + 1 + 1, 3, none⟩ = some (.slice none 0 0) := r2.out.cell 3
  have vu3 : w4.frozen? ⟨w.heap.size + 1 + 1, 3, none⟩ = false := r2.out.free 3
  have u4 : w4.cell? ⟨w.heap.size + 1 + 1, 4, none⟩ = some (.int .i64 0) := r2.out.cell 4
  have vu4 : w4.frozen? ⟨w.heap.size + 1 + 1, 4, none⟩ = false := r2.out.free 4
  have u5 : w4.cell? ⟨w.heap.size + 1 + 1, 5, none⟩ = some (.slice none 0 0) := r2.out.cell 5
  have vu5 : w4.frozen? ⟨w.heap.size + 1 + 1, 5, none⟩ = false := r2.out.free 5
  have u6 : w4.cell? ⟨w.heap.size + 1 + 1, 6, none⟩ = some (.slice none 0 0) := r2.out.cell 6
  have vu6 : w4.frozen? ⟨w.heap.size + 1 + 1, 6, none⟩ = false := r2.out.free 6
  go_wp2
  have rE := Lib.hid (((((((r2.out.set 0 (.slice none 0 0)).set 1 (.slice none 0 0)).set 2 (.slice none 0 0)).set 3 (.slice none 0 0)).set 4 (.int .i64 0)).set 5 (.slice none 0 0)).set 6 (.slice none 0 0))
  have k0 := rE.out.cell 0
  have k1 := rE.out.cell 1
  have k2 := rE.out.cell 2
  have k3 := rE.out.cell 3
  have k4 := rE.out.cell 4
  have k5 := rE.out.cell 5
  have k6 := rE.out.cell 6
  refine bodyPost_ret (v := .tuple #[.agg #[.slice none 0 0, .slice none 0 0, .slice none 0 0, .slice none 0 0, .int .i64 0, .slice none 0 0, .slice none 0 0], .bool false]) (by simp [results, Try.results11, go_sem, k0, k1, k2, k3, k4, k5, k6]) rfl ⟨by rw [hV.out, hbv.out]; rfl, (bsetN (bsetN (bsetN (bsetN (bsetN (bsetN (bsetN hb4'.out (by omega)) (by omega)) (by omega)) (by omega)) (by omega)) (by omega)) (by omega))⟩
 | true =>
  have a0 : w4.cell? ⟨w.heap.size + 1, 0, none⟩ = some (.int .i64 A.sets) := r1.out.cell 0
  have a1 : w4.cell? ⟨w.heap.size + 1, 1, none⟩ = some (.slice X.bi A.init.length X.di) := r1.out.cell 1
  have a2 : w4.cell? ⟨w.heap.size + 1, 2, none⟩ = some (.slice X.bn A.nodes.length X.dn) := r1.out.cell 2
  go_wp2_with fail
  refine (CR.out w4 hb4'.out).mono ?_
  rintro e w5 ⟨rfl, hb5⟩
  clear a0 a1 a2
  have hb5' := Lib.hid (btrans hb4'.out hb5)
  have q0 := Lib.hid (r0.out.below hb5)
  have q1 := Lib.hid (r1.out.below hb5)
  have q2 := Lib.hid (r2.out.below hb5)
  have u0 : w5.cell? ⟨w.heap.size + 1 + 1, 0, none⟩ = some (.slice none 0 0) := q2.out.cell 0
  have vu0 : w5.frozen? ⟨w.heap.size + 1 + 1, 0, none⟩ = false := q2.out.free 0
  have u1 : w5.cell? ⟨w.heap.size + 1 + 1, 1, none⟩ = some (.slice none 0 0) := q2.out.cell 1
  have vu1 : w5.frozen? ⟨w.heap.size + 1 + 1, 1, none⟩ = false := q2.out.free 1
  have u2 : w5.cell? ⟨w.heap.size + 1 + 1, 2, none⟩ = some (.slice none 0 0) := q2.out.cell 2
  have vu2 : w5.frozen? ⟨w.heap.size + 1 + 1, 2, none⟩ = false := q2.out.free 2
  have u3 : w5.cell? ⟨w.heap.size + 1 + 1, 3, none⟩ = some (.slice none 0 0) := q2.out.cell 3
  have vu3 : w5.frozen? ⟨w.heap.size + 1 + 1, 3, none⟩ = false := q2.out.free 3
  have u4 : w5.cell? ⟨w.heap.size + 1 + 1, 4, none⟩ = some (.int .i64 0) := q2.out.cell 4
  have vu4 : w5.frozen? ⟨w.heap.size + 1 + 1, 4, none⟩ = false := q2.out.free 4
  have u5 : w5.cell? ⟨w.heap.size + 1 + 1, 5, none⟩ = some (.slice none 0 0) := q2.out.cell 5
  have vu5 : w5.frozen? ⟨w.heap.size + 1 + 1, 5, none⟩ = false := q2.out.free 5
  have u6 : w5.cell? ⟨w.heap.size + 1 + 1, 6, none⟩ = some (.slice none 0 0) := q2.out.cell 6
  have vu6 : w5.frozen? ⟨w.heap.size + 1 + 1, 6, none⟩ = false := q2.out.free 6
  by_cases hc : c = 0
  ·have hbv : Hid (b = true) := by show _ = _; rw [hb.out, decide_eq_true hc]; rfl
   have hcb : (c != 0) = false := by simpa using hc
   have g0 : w5.cell? ⟨w.heap.size, 0, none⟩ = some (.slice X.ai G.init.length X.ci) := q0.out.cell 0
   have g1 : w5.cell? ⟨w.heap.size, 1, none⟩ = some (.slice X.ae G.edges.length X.ce) := q0.out.cell 1
   have g2 : w5.cell? ⟨w.heap.size, 2, none⟩ = some (.slice X.al G.labels.length X.cl) := q0.out.cell 2
   have a0 : w5.cell? ⟨w.heap.size + 1, 0, none⟩ = some (.int .i64 A.sets) := q1.out.cell 0
   have a1 : w5.cell? ⟨w.heap.size + 1, 1, none⟩ = some (.slice X.bi A.init.length X.di) := q1.out.cell 1
   have a2 : w5.cell? ⟨w.heap.size + 1, 2, none⟩ = some (.slice X.bn A.nodes.length X.dn) := q1.out.cell 2
   clear hc
   go_wp2
   have rE := Lib.hid (((((((q2.out.set 0 (.slice X.ai G.init.length X.ci)).set 1 (.slice X.ae G.edges.length X.ce)).set 2 (.slice X.al G.labels.length X.cl)).set 3 (.slice X.as_ sets.length X.cs)).set 4 (.int .i64 A.sets)).set 5 (.slice X.bi A.init.length X.di)).set 6 (.slice X.bn A.nodes.length X.dn))
   have k0 := rE.out.cell 0
   have k1 := rE.out.cell 1
   have k2 := rE.out.cell 2
   have k3 := rE.out.cell 3
   have k4 := rE.out.cell 4
   have k5 := rE.out.cell 5
   have k6 := rE.out.cell 6
   refine bodyPost_ret (v := .tuple #[.agg #[.slice X.ai G.init.length X.ci, .slice X.ae G.edges.length X.ce, .slice X.al G.labels.length X.cl, .slice X.as_ sets.length X.cs, .int .i64 A.sets, .slice X.bi A.init.length X.di, .slice X.bn A.nodes.length X.dn], .bool true]) (by simp [results, Try.results11, go_sem, k0, k1, k2, k3, k4, k5, k6]) rfl ⟨by rw [hV.out, hbv.out]; rfl, (bsetN (bsetN (bsetN (bsetN (bsetN (bsetN (bsetN hb5'.out (by omega)) (by omega)) (by omega)) (by omega)) (by omega)) (by omega)) (by omega))⟩
  ·have hbv : Hid (b = false) := by show _ = _; rw [hb.out, decide_eq_false hc]; rfl
   have hcb : (c != 0) = true := by simpa using hc
   clear hc
   go_wp2
   have rE := Lib.hid (((((((q2.out.set 0 (.slice none 0 0)).set 1 (.slice none 0 0)).set 2 (.slice none 0 0)).set 3 (.slice none 0 0)).set 4 (.int .i64 0)).set 5 (.slice none 0 0)).set 6 (.slice none 0 0))
   have k0 := rE.out.cell 0
   have k1 := rE.out.cell 1
   have k2 := rE.out.cell 2
   have k3 := rE.out.cell 3
   have k4 := rE.out.cell 4
   have k5 := rE.out.cell 5
   have k6 := rE.out.cell 6
   refine bodyPost_ret (v := .tuple #[.agg #[.slice none 0 0, .slice none 0 0, .slice none 0 0, .slice none 0 0, .int .i64 0, .slice none 0 0, .slice none 0 0], .bool false]) (by simp [results, Try.results11, go_sem, k0, k1, k2, k3, k4, k5, k6]) rfl ⟨by rw [hV.out, hbv.out]; rfl, (bsetN (bsetN (bsetN (bsetN (bsetN (bsetN (bsetN hb5'.out (by omega)) (by omega)) (by omega)) (by omega)) (by omega)) (by omega)) (by omega))⟩
end Go.Proofs.Ytfcpfcgcfaacnaa
