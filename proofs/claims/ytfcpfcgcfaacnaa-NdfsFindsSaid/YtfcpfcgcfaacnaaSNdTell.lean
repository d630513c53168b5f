/- What a search tells as a lasso. Conditions: a search in memory. -/
import Derived.Test.YtfcpfcgcfaacnaaSNdReach
namespace Go.Proofs.Ytfcpfcgcfaacnaa
set_option linter.unusedVariables false
open Go.RowKit
structure TellAt (w1 wr : World) (sB : Nat) (rv : List Value) (sa : Option Addr) (sc : Nat) (stem : List PP) (la : Option Addr) (lc : Nat) (loop : List PP) : Prop where
 keep : Keeps w1 wr (fun j => j = sB ∨ w1.heap.size ≤ j)
 row : RowAt wr sB TSr ((rv.set 8 (.slice sa stem.length sc)).set 9 (.slice la loop.length lc))
 st : OwnQ wr w1.heap.size TPP sa sc stem
 lo : OwnQ wr w1.heap.size TPP la lc loop
 ne : ∀ j, OB sa stem.length sc = some j → OB la loop.length lc ≠ some j
 hs : sB < w1.heap.size
 rl : rv.length = 15
section
variable {w1 wr wA w' : World} {sB : Nat} {rv : List Value} {sa la : Option Addr} {sc lc : Nat} {stem loop : List PP}
theorem TellAt.below (h : TellAt w1 wr sB rv sa sc stem la lc loop) (hb : Below wr.heap.size wr w') : TellAt w1 w' sB rv sa sc stem la lc loop :=
 ⟨h.keep.trans (Keeps.of_below (S := fun _ => False) hb) (fun _ _ h => h.elim), h.row.below hb, h.st.keeps (Keeps.of_below (S := fun _ => False) hb) (fun _ _ h => h), h.lo.keeps (Keeps.of_below (S := fun _ => False) hb) (fun _ _ h => h), h.ne, h.hs, h.rl⟩
theorem TellAt.stemS (h : TellAt w1 wr sB rv sa sc stem la lc loop) (hA : Below wr.heap.size wr wA) {x : PP} {a' : Option Addr} {c' : Nat}
  (ho : OwnR w' w1.heap.size TPP 3 a' (stem.length + 1) c' (qcells stem ++ [.int .i64 x.node, .int .i64 x.state, .int .i64 x.turn])) (hg : wA.grownBy w' (OB sa stem.length sc)) (hat : OB a' (stem.length + 1) c' = OB sa stem.length sc ∨ OB a' (stem.length + 1) c' = some wA.heap.size) :
  RowAt w' sB TSr ((rv.set 8 (.slice sa stem.length sc)).set 9 (.slice la loop.length lc)) ∧ TellAt w1 (w'.setCell ⟨sB, 8, none⟩ (.slice a' (stem.length + 1) c')) sB rv a' c' (stem ++ [x]) la lc loop ∧ Keeps wr w' (fun j => OB sa stem.length sc = some j) := by
 have hk : Keeps wr w' (fun j => OB sa stem.length sc = some j) := (Keeps.of_below (S := fun j => OB sa stem.length sc = some j) hA).trans (Keeps.of_grown (S := fun j => OB sa stem.length sc = some j) hg (fun j e => e)) (fun _ _ h => h)
 have hs := h.hs
 have hz := h.keep.size
 have hr : RowAt w' sB TSr ((rv.set 8 (.slice sa stem.length sc)).set 9 (.slice la loop.length lc)) := h.row.keeps hk (fun e => by have := (OwnR.lt h.st e).1; omega)
 have hks : Keeps w' (w'.setCell ⟨sB, 8, none⟩ (.slice a' (stem.length + 1) c')) (fun j => j = sB) := Keeps.set w' sB 8 _ rfl
 have hl : (stem ++ [x]).length = stem.length + 1 := by simp
 refine ⟨hr, ⟨(h.keep.trans hk (fun j _ e => .inr (OwnR.lt h.st e).1)).trans hks (fun j _ e => .inl e), ?_, ?_, ?_, fun j hj => ?_, hs, h.rl⟩, hk⟩
 ·have h2 := hr.set 8 (.slice a' (stem.length + 1) c')
  rw [hl]
  have e : ((rv.set 8 (.slice sa stem.length sc)).set 9 (.slice la loop.length lc)).set 8 (.slice a' (stem.length + 1) c') = (rv.set 8 (.slice a' (stem.length + 1) c')).set 9 (.slice la loop.length lc) := by
   rw [List.set_comm _ _ (by decide), List.set_set]
  rw [e] at h2
  exact h2
 ·show OwnR _ _ _ _ _ _ _ _
  rw [hl, qcells_snoc]
  exact OwnR.keeps ho hks (fun j hj e => by have := (OwnR.lt ho hj).1; omega)
 ·refine (h.lo.keeps hk (fun j hj e => h.ne j e hj)).keeps hks (fun j hj e => by have := (OwnR.lt h.lo hj).1; omega)
 ·rw [hl] at hj
  rcases hat with e | e
  ·rw [e] at hj; exact h.ne j hj
  ·rw [e] at hj
   cases hj
   intro e2
   have := (OwnR.lt h.lo e2).2
   have := hA.size
   omega
theorem TellAt.loopL (h : TellAt w1 wr sB rv sa sc stem la lc loop) (hA : Below wr.heap.size wr wA) {x : PP} {a' : Option Addr} {c' : Nat}
  (ho : OwnR w' w1.heap.size TPP 3 a' (loop.length + 1) c' (qcells loop ++ [.int .i64 x.node, .int .i64 x.state, .int .i64 x.turn])) (hg : wA.grownBy w' (OB la loop.length lc)) (hat : OB a' (loop.length + 1) c' = OB la loop.length lc ∨ OB a' (loop.length + 1) c' = some wA.heap.size) :
  RowAt w' sB TSr ((rv.set 8 (.slice sa stem.length sc)).set 9 (.slice la loop.length lc)) ∧ TellAt w1 (w'.setCell ⟨sB, 9, none⟩ (.slice a' (loop.length + 1) c')) sB rv sa sc stem a' c' (loop ++ [x]) ∧ Keeps wr w' (fun j => OB la loop.length lc = some j) := by
 have hk : Keeps wr w' (fun j => OB la loop.length lc = some j) := (Keeps.of_below (S := fun j => OB la loop.length lc = some j) hA).trans (Keeps.of_grown (S := fun j => OB la loop.length lc = some j) hg (fun j e => e)) (fun _ _ h => h)
 have hs := h.hs
 have hz := h.keep.size
 have hr : RowAt w' sB TSr ((rv.set 8 (.slice sa stem.length sc)).set 9 (.slice la loop.length lc)) := h.row.keeps hk (fun e => by have := (OwnR.lt h.lo e).1; omega)
 have hks : Keeps w' (w'.setCell ⟨sB, 9, none⟩ (.slice a' (loop.length + 1) c')) (fun j => j = sB) := Keeps.set w' sB 9 _ rfl
 have hl : (loop ++ [x]).length = loop.length + 1 := by simp
 refine ⟨hr, ⟨(h.keep.trans hk (fun j _ e => .inr (OwnR.lt h.lo e).1)).trans hks (fun j _ e => .inl e), ?_, ?_, ?_, fun j hj e2 => ?_, hs, h.rl⟩, hk⟩
 ·have h2 := hr.set 9 (.slice a' (loop.length + 1) c')
  rw [hl]
  rw [List.set_set] at h2
  exact h2
 ·refine (h.st.keeps hk (fun j hj e => h.ne j hj e)).keeps hks (fun j hj e => by have := (OwnR.lt h.st hj).1; omega)
 ·show OwnR _ _ _ _ _ _ _ _
  rw [hl, qcells_snoc]
  exact OwnR.keeps ho hks (fun j hj e => by have := (OwnR.lt ho hj).1; omega)
 ·rw [hl] at e2
  rcases hat with e | e
  ·rw [e] at e2; exact h.ne j hj e2
  ·rw [e] at e2
   cases e2
   have := (OwnR.lt h.st hj).2
   have := hA.size
   omega
end
theorem take_snoc_at {P : List PP} {k : Nat} (hk : k < P.length) : P.take (k + 1) = P.take k ++ [P[k]] := by
 rw [List.take_add_one, List.getElem?_eq_getElem hk, Option.toList_some]
set_option maxRecDepth 10000 in
set_option maxHeartbeats 8000000 in
theorem tell_any (W : World) (Z : Zn) (p sB : Nat) (b : NB) (nx : PP → List PP) (hnx : ∀ x, (nx x).length ≤ 1000000) (s : NS) (st : List (PP × Nat)) (kk : Nat) (w : World) (i : Nat) (h : SrOk W p sB Z b nx s st kk w) (hi : i ≤ (way s.ot).length) (hl : s.ot.length ≤ 1000000 ∧ st.length ≤ 1000000) :
  Calls Try.prog 83 #[.pointer (some ⟨sB, 0, none⟩), .int .i64 (i : Int)] w fun e w' => e = .returned (.tuple #[]) ∧ EndAt W sB ⟨2, 0, s.nodes, s.edges, s.depth, (way s.ot).take i, (way s.ot).drop i ++ way st⟩ w' := by
 obtain ⟨X, S0, S1, h1, h2, _, h4⟩ := h
 have l0 : S0.length = s.ot.length := by have := congrArg List.length h1; simpa using this
 have l1 : S1.length = st.length := by have := congrArg List.length h2; simpa using this
 have hP0 : S0.map (·.1.1) = way s.ot := by
  have : S0.map (·.1.1) = (S0.map (·.1)).map (·.1) := by rw [List.map_map]; rfl
  rw [this, h1, List.map_reverse]; rfl
 have hP1 : S1.map (·.1.1) = way st := by
  have : S1.map (·.1.1) = (S1.map (·.1)).map (·.1) := by rw [List.map_map]; rfl
  rw [this, h2, List.map_reverse]; rfl
 obtain ⟨n0, hn0⟩ : ∃ n, n = S0.length := ⟨_, rfl⟩
 obtain ⟨n1, hn1⟩ : ∃ n, n = S1.length := ⟨_, rfl⟩
 obtain ⟨P, hP⟩ : ∃ P, P = way s.ot := ⟨_, rfl⟩
 obtain ⟨Q, hQ⟩ : ∃ Q, Q = way st := ⟨_, rfl⟩
 rw [← hP] at hi hP0 ⊢
 rw [← hQ] at hP1 ⊢
 have lP : P.length = n0 := by rw [hn0, ← hP0, List.length_map]
 have lQ : Q.length = n1 := by rw [hn1, ← hP1, List.length_map]
 have b0 : (n0 : Int) ≤ 1000000 := by omega
 have b1 : (n1 : Int) ≤ 1000000 := by omega
 obtain ⟨rv, hrv⟩ : ∃ rv, rv = (srun p b s X n0 n1).set 3 (.int .i64 2) := ⟨_, rfl⟩
 have h5 := h4.set 3 (.int .i64 2)
 rw [← hn0, ← hn1, ← hrv] at h5
 have hr := h4.row
 have c3 : w.cell? ⟨sB, 3, none⟩ = some (.int .i64 0) := hr.cell 3
 have f3 := hr.free 3
 have hsl := h4.hs
 obtain ⟨w1, hw1⟩ : ∃ w1, w1 = w.setCell ⟨sB, 3, none⟩ (.int .i64 2) := ⟨_, rfl⟩
 rw [← hw1] at h5
 have c10 : (w.setCell ⟨sB, 3, none⟩ (.int .i64 2)).cell? ⟨sB, 10, none⟩ = some (.slice X.a0 n0 X.c0) := by rw [← hw1, h5.row.cell 10, hrv]; rfl
 have hrl : rv.length = 15 := by rw [hrv]; rfl
 have hr8 : rv.set 8 (.slice none 0 0) = rv := by rw [hrv]; rfl
 have hr9 : rv.set 9 (.slice none 0 0) = rv := by rw [hrv]; rfl
 have te0 : Hid (TellAt w1 w1 sB rv none 0 [] none 0 []) := ⟨Keeps.refl _ _, by show RowAt w1 sB TSr ((rv.set 8 (.slice none 0 0)).set 9 (.slice none 0 0)); rw [hr8, hr9]; exact h5.row, OwnR.nil _ _ _ _, OwnR.nil _ _ _ _, fun j hj => by simp [OB, Value.ownBlock] at hj, h5.hs.2, hrl⟩
 replace h5 := Lib.hid h5
 replace hrv := Lib.hid hrv
 replace hw1 := hw1
 have hap := h5.out.apart
 replace hap := Lib.hid hap
 replace hn0 := Lib.hid hn0
 replace hn1 := Lib.hid hn1
 replace hP0 := Lib.hid hP0
 replace hP1 := Lib.hid hP1
 replace lP := Lib.hid lP
 replace lQ := Lib.hid lQ
 replace hrl := Lib.hid hrl
 replace hP := Lib.hid hP
 replace hQ := Lib.hid hQ
 have hii : (i : Int) ≤ 1000000 := by have := lP.out; omega
 have hil : Hid (i ≤ P.length) := hi
 clear h1 h2 h4 l0 l1 hr hl hr8 hr9 hi hsl
 go_enter Try.func83, Try.ntmps83
 go_wp2
 rw [← hw1]
 clear c10 c3 f3 hw1
 go_loopw [18] (fun kv wr => ∃ (k : Nat) (sa : Option Addr) (sc : Nat) (la : Option Addr) (lc : Nat), kv = .int .i64 k ∧ k ≤ n0 ∧ Hid (TellAt w1 wr sB rv sa sc ((P.take k).take i) la lc ((P.take k).drop i))) (fun kv _ => n0 - (intOf kv).toNat)
 case atStart => exact ⟨0, none, 0, none, 0, rfl, Nat.zero_le _, by rw [List.take_zero, List.take_nil, List.drop_nil]; exact te0⟩
 case round =>
  obtain ⟨k, sa, sc, la, lc, rfl, hk, te⟩ := hrel
  clear te0
  by_cases hkn : k < n0
  ·have hkN : (k : Int) < (n0 : Int) := by omega
   have hkS : k < S0.length := by have := hn0.out; omega
   have hkP : k < P.length := by have := lP.out; omega
   have how := h5.out.own0
   rw [← hn0.out] at how
   obtain ⟨g, hg, hg1, hg2⟩ := OwnR.addr how (by omega)
   have hgs : g ≠ sB := hap.out.2.2.2.1 g (by rw [hg]; rfl)
   rw [hg] at how
   have cc : ∀ j, j < n0 * 5 → wr.cell? ⟨g, j, none⟩ = (spcells nx S0)[j]? := fun j hj => by
    rw [World.cell?_of_block (a := ⟨g, j, none⟩) (te.out.keep.block g hg2 (fun hh => hh.elim hgs (fun e => by omega)))]
    exact OwnR.cell how j hj
   obtain ⟨q0, q1, q2, q3, q4⟩ := spcells_at nx S0 k hkS
   have s0 := (cc (k * 5) (by omega)).trans q0
   have s1 := (cc (k * 5 + 1) (by omega)).trans q1
   have s2 := (cc (k * 5 + 2) (by omega)).trans q2
   have s3 := (cc (k * 5 + 3) (by omega)).trans q3
   have s4 := (cc (k * 5 + 4) (by omega)).trans q4
   have hPk : P[k] = S0[k].1.1 := by
    have h := hP0.out
    have : (S0.map (·.1.1))[k]'(by rw [List.length_map]; exact hkS) = S0[k].1.1 := by simp
    rw [← this]
    simp only [h]
   have htk := take_snoc_at hkP
   rw [hPk] at htk
   generalize S0[k] = e at s0 s1 s2 s3 s4 htk
   obtain ⟨⟨⟨xn, xs, xt⟩, xm⟩, an, cn⟩ := e
   simp only at s0 s1 s2 s3 s4 htk
   obtain ⟨ln, hln_⟩ : ∃ ln, ln = (nx ⟨xn, xs, xt⟩).length := ⟨_, rfl⟩
   rw [← hln_] at s3
   have hbA : Hid (Below wr.heap.size wr (wr.alloc (.cells #[.int .i64 xn, .int .i64 xs, .int .i64 xt, .slice an ln cn, .int .i64 xm] TSp))) := balloc (Below.refl _ _) _
   have rbx : Hid (RowAt (wr.alloc (.cells #[.int .i64 xn, .int .i64 xs, .int .i64 xt, .slice an ln cn, .int .i64 xm] TSp)) wr.heap.size TSp [.int .i64 xn, .int .i64 xs, .int .i64 xt, .slice an ln cn, .int .i64 xm]) := RowAt.new #[.int .i64 xn, .int .i64 xs, .int .i64 xt, .slice an ln cn, .int .i64 xm] rfl
   have ha0 := hg
   replace htk := Lib.hid htk
   obtain ⟨stem, hst⟩ : ∃ l, l = (P.take k).take i := ⟨_, rfl⟩
   obtain ⟨loop, hlo⟩ : ∃ l, l = (P.take k).drop i := ⟨_, rfl⟩
   rw [← hst, ← hlo] at te
   obtain ⟨ns, hns⟩ : ∃ n, n = stem.length := ⟨_, rfl⟩
   obtain ⟨nl, hnl⟩ : ∃ n, n = loop.length := ⟨_, rfl⟩
   have hln : Hid (ns ≤ 1000000 ∧ nl ≤ 1000000) := by
    constructor
    ·rw [hns, hst, List.length_take, List.length_take]; omega
    ·rw [hnl, hlo, List.length_drop, List.length_take]; omega
   replace hns := Lib.hid hns
   replace hnl := Lib.hid hnl
   clear how q0 q1 q2 q3 q4 cc hPk hln_ hg hkS
   obtain ⟨a0v, ha0v⟩ : ∃ a, a = X.a0 := ⟨_, rfl⟩
   rw [← ha0v] at ha0 ⊢
   subst ha0
   replace ha0v := Lib.hid ha0v
   by_cases hki : k < i
   ·have hkiI : (k : Int) < (i : Int) := by omega
    have h1s : Hid (stem ++ [⟨xn, xs, xt⟩] = (P.take (k + 1)).take i) := by
     show _ = _
     rw [htk.out, hst, List.take_of_length_le (show (P.take k).length ≤ i by rw [List.length_take]; omega), List.take_of_length_le (show (P.take k ++ [(⟨xn, xs, xt⟩ : PP)]).length ≤ i by rw [List.length_append, List.length_take]; simp; omega)]
    have h1l : Hid (loop = (P.take (k + 1)).drop i) := by
     show _ = _
     rw [hlo, List.drop_eq_nil_of_le (by rw [List.length_take]; omega), List.drop_eq_nil_of_le (by rw [List.length_take]; omega)]
    go_wp2
    clear s0 s1 s2 s3 s4
    have tA := Lib.hid (te.out.below hbA.out)
    have hm8 := tA.out.row.cell 8
    have d8 : (wr.alloc (.cells #[.int .i64 xn, .int .i64 xs, .int .i64 xt, .slice an ln cn, .int .i64 xm] TSp)).cell? ⟨sB, 8, none⟩ = some (.slice sa ns sc) := by
     rw [tA.out.row.cell 8]
     have := tA.out.rl
     simp [this, hns.out]
    have x0 : (wr.alloc (.cells #[.int .i64 xn, .int .i64 xs, .int .i64 xt, .slice an ln cn, .int .i64 xm] TSp)).cell? ⟨wr.heap.size, 0, none⟩ = some (.int .i64 xn) := rbx.out.cell 0
    have x1 : (wr.alloc (.cells #[.int .i64 xn, .int .i64 xs, .int .i64 xt, .slice an ln cn, .int .i64 xm] TSp)).cell? ⟨wr.heap.size, 1, none⟩ = some (.int .i64 xs) := rbx.out.cell 1
    have x2 : (wr.alloc (.cells #[.int .i64 xn, .int .i64 xs, .int .i64 xt, .slice an ln cn, .int .i64 xm] TSp)).cell? ⟨wr.heap.size, 2, none⟩ = some (.int .i64 xt) := rbx.out.cell 2
    obtain ⟨wB, hwB⟩ : ∃ wB, wB = wr.alloc (.cells #[.int .i64 xn, .int .i64 xs, .int .i64 xt, .slice an ln cn, .int .i64 xm] TSp) := ⟨_, rfl⟩
    have hszB : Hid (wB.heap.size = wr.heap.size + 1) := by show _ = _; rw [hwB]; simp
    rw [← hwB] at tA rbx d8 x0 x1 x2 ⊢
    clear hwB hm8
    have hxB : wr.heap.size < wB.heap.size := rbx.out.lt
    have hsB : sB < wB.heap.size := by have := tA.out.hs; have := tA.out.keep.size; omega
    have hAA : Hid (Below wB.heap.size wB (wB.drew.alloc (.cells #[.int .i64 xn, .int .i64 xs, .int .i64 xt] TPP))) := balloc (Below.refl _ _).drew _
    have OW : Hid (OwnR (wB.drew.alloc (.cells #[.int .i64 xn, .int .i64 xs, .int .i64 xt] TPP)) w1.heap.size TPP 3 sa ns sc (qcells stem)) := by
     have h := (tA.out.below hAA.out).st
     unfold OwnQ at h
     rw [← hns.out] at h
     exact h
    have nc : Hid (∀ j u, [Value.int .i64 xn, .int .i64 xs, .int .i64 xt][j]? = some u → (wB.drew.alloc (.cells #[.int .i64 xn, .int .i64 xs, .int .i64 xt] TPP)).cell? ((⟨wB.heap.size, 0, none⟩ : Addr).add j) = some u) := new_cells wB.drew #[.int .i64 xn, .int .i64 xs, .int .i64 xt] TPP rfl
    have oc : Hid (∀ u ∈ [Value.int .i64 xn, .int .i64 xs, .int .i64 xt], u.oneCell' = true) := fun u hu => by simp at hu; rcases hu with rfl | rfl | rfl <;> rfl
    have n5 : Hid (ns + 1 ≤ maxLen) := by show _ ≤ _; unfold maxLen; have := hln.out; omega
    have y5 : Hid ((ns + 1) * 24 ≤ 140737488355328) := by show _ ≤ _; have := hln.out; omega
    have hBA : Hid (w1.heap.size ≤ (wB.drew.alloc (.cells #[.int .i64 xn, .int .i64 xs, .int .i64 xt] TPP)).heap.size) := by
     show _ ≤ _
     have := tA.out.keep.size
     have := hAA.out.size
     omega
    have SXb : Hid (∀ v, RowAt v wr.heap.size TSp [.int .i64 xn, .int .i64 xs, .int .i64 xt, .slice an ln cn, .int .i64 xm] → v.cell? ⟨wr.heap.size, 0, none⟩ = some (.int .i64 xn) ∧ v.cell? ⟨wr.heap.size, 1, none⟩ = some (.int .i64 xs) ∧ v.cell? ⟨wr.heap.size, 2, none⟩ = some (.int .i64 xt)) := fun v h => ⟨h.cell 0, h.cell 1, h.cell 2⟩
    have T7 : Hid (∀ a' c' v', OwnR v' w1.heap.size TPP 3 a' (ns + 1) c' (qcells stem ++ [.int .i64 xn, .int .i64 xs, .int .i64 xt]) → (wB.drew.alloc (.cells #[.int .i64 xn, .int .i64 xs, .int .i64 xt] TPP)).grownBy v' (OB sa ns sc) → (OB a' (ns + 1) c' = OB sa ns sc ∨ OB a' (ns + 1) c' = some (wB.drew.alloc (.cells #[.int .i64 xn, .int .i64 xs, .int .i64 xt] TPP)).heap.size) →
      v'.cell? ⟨sB, 8, none⟩ = some (.slice sa ns sc) ∧ v'.frozen? ⟨sB, 8, none⟩ = false ∧ sB < v'.heap.size ∧ RowAt v' wr.heap.size TSp [.int .i64 xn, .int .i64 xs, .int .i64 xt, .slice an ln cn, .int .i64 xm] ∧ RowAt (v'.setCell ⟨sB, 8, none⟩ (.slice a' (ns + 1) c')) wr.heap.size TSp [.int .i64 xn, .int .i64 xs, .int .i64 xt, .slice an ln cn, .int .i64 xm] ∧ TellAt w1 (v'.setCell ⟨sB, 8, none⟩ (.slice a' (ns + 1) c')) sB rv a' c' (stem ++ [⟨xn, xs, xt⟩]) la lc loop) := fun a' c' v' ho hg hat => by
     have hlo := hns.out
     rw [hlo] at ho hg hat ⊢
     obtain ⟨r1, r2, r3⟩ := TellAt.stemS (x := ⟨xn, xs, xt⟩) tA.out hAA.out ho hg hat
     have rb1 := rbx.out.keeps r3 (fun e => by have h1 := te.out.st; have := (OwnR.lt h1 e).2; omega)
     refine ⟨?_, r1.free 8, r1.lt, rb1, rb1.other (by have := tA.out.hs; have := te.out.keep.size; omega) 8 _, r2⟩
     rw [r1.cell 8]
     have := tA.out.rl
     simp [this]
    refine wp_region_held_drew (S := (fun w' => w'.cell? ⟨wr.heap.size, 0, none⟩ = some (.int .i64 xn) ∧ w'.cell? ⟨wr.heap.size, 1, none⟩ = some (.int .i64 xs) ∧ w'.cell? ⟨wr.heap.size, 2, none⟩ = some (.int .i64 xt))) (by kernel_rfl) (SXb.out _ (rbx.out.below (Below.refl _ _).drew)) (fun hHeld => ?_)
    refine wpAnyH_take (i := 0) (oi := ({ dst := some 26, op := .move (.tmp 0), type := 103, pos := "ndfs.go:84", after := #[], guard := none } : Oper)) (v := ?_) rfl (by kernel_rfl) (by kernel_rfl) (by kernel_rfl) (fun _ _ _ h => h) (Or.inl ⟨by rfl, ?_⟩) (by assumption) ?_
    case refine_2 => (intro w hSw; (try dsimp only at hSw); go_simp; try with_reducible rfl)
    try simp only [Act.put, zsA, zsZ, zsS]
    refine wpAnyH_take (i := 1) (oi := ({ dst := some 27, op := .move (.tmp 0), type := 103, pos := "ndfs.go:84", after := #[], guard := none } : Oper)) (v := ?_) rfl (by kernel_rfl) (by kernel_rfl) (by kernel_rfl) (fun _ _ _ h => h) (Or.inl ⟨by rfl, ?_⟩) (by assumption) ?_
    case refine_2 => (intro w hSw; (try dsimp only at hSw); go_simp; try with_reducible rfl)
    try simp only [Act.put, zsA, zsZ, zsS]
    refine wpAnyH_take (i := 2) (oi := ({ dst := some 28, op := .nilCheck (.tmp 27), type := 0, pos := "ndfs.go:84", after := #[{ on := 1, ground := .data }], guard := none } : Oper)) (v := ?_) rfl (by kernel_rfl) (by kernel_rfl) (by kernel_rfl) (fun _ _ _ h => h) (Or.inl ⟨by rfl, ?_⟩) (by assumption) ?_
    case refine_2 => (intro w hSw; (try dsimp only at hSw); go_simp; try with_reducible rfl)
    try simp only [Act.put, zsA, zsZ, zsS]
    refine wpAnyH_take (i := 3) (oi := ({ dst := some 29, op := .fieldAddr 109 (.tmp 28) 2, type := 0, pos := "ndfs.go:84", after := #[{ on := 2, ground := .data }], guard := none } : Oper)) (v := ?_) rfl (by kernel_rfl) (by kernel_rfl) (by kernel_rfl) (fun _ _ _ h => h) (Or.inl ⟨by rfl, ?_⟩) (by assumption) ?_
    case refine_2 => (intro w hSw; (try dsimp only at hSw); go_simp; try with_reducible rfl)
    try simp only [Act.put, zsA, zsZ, zsS]
    refine wpAnyH_take (i := 4) (oi := ({ dst := some 30, op := .fieldAddr 50 (.tmp 29) 3, type := 0, pos := "ndfs.go:84", after := #[{ on := 3, ground := .data }], guard := none } : Oper)) (v := ?_) rfl (by kernel_rfl) (by kernel_rfl) (by kernel_rfl) (fun _ _ _ h => h) (Or.inl ⟨by rfl, ?_⟩) (by assumption) ?_
    case refine_2 => (intro w hSw; (try dsimp only at hSw); go_simp; try with_reducible rfl)
    try simp only [Act.put, zsA, zsZ, zsS]
    refine wpAnyH_take (i := 6) (oi := ({ dst := some 32, op := .fieldAddr 143 (.tmp 5) 0, type := 0, pos := "ndfs.go:84", after := #[], guard := none } : Oper)) (v := ?_) rfl (by kernel_rfl) (by kernel_rfl) (by kernel_rfl) (fun _ _ _ h => h) (Or.inl ⟨by rfl, ?_⟩) (by assumption) ?_
    case refine_2 => (intro w hSw; (try dsimp only at hSw); go_simp; try with_reducible rfl)
    try simp only [Act.put, zsA, zsZ, zsS]
    refine wpAnyH_take (i := 7) (oi := ({ dst := some 33, op := .load 82 (.tmp 32), type := 82, pos := "ndfs.go:84", after := #[{ on := 6, ground := .data }], guard := none } : Oper)) (v := ?_) rfl (by kernel_rfl) (by kernel_rfl) (by kernel_rfl) (fun _ _ _ h => h) (Or.inl ⟨by rfl, ?_⟩) (by assumption) ?_
    case refine_2 => (intro w hSw; (try dsimp only at hSw); go_simp; try with_reducible rfl)
    try simp only [Act.put, zsA, zsZ, zsS]
    refine wpAnyH_ready (rs := [5, 8]) (by kernel_rfl) (by simp) ?_
    refine AllReadyH.cons (o := ({ dst := some 31, op := .load 48 (.tmp 30), type := 48, pos := "ndfs.go:84", after := #[{ on := 4, ground := .data }], guard := none } : Oper)) rfl (fun K hK => ?_) (AllReadyH.cons (o := ({ dst := some 34, op := .buildSlice 48 1 #[(0, .tmp 33)], type := 48, pos := "ndfs.go:84", after := #[{ on := 7, ground := .data }], guard := none } : Oper)) rfl (fun K hK => ?_) AllReadyH.nil)
    ·go_simp
     clear hHeld
     refine hK.out _ _ (SXb.out _ (rbx.out.below (Below.refl _ _).drew)) (fun hHeld => ?_)
     clear hK K
     try simp only [Act.put, zsA, zsZ, zsS]
     refine wpAnyH_ready (rs := [8]) (by kernel_rfl) (by simp) ?_
     refine AllReadyH.cons (o := ({ dst := some 34, op := .buildSlice 48 1 #[(0, .tmp 33)], type := 48, pos := "ndfs.go:84", after := #[{ on := 7, ground := .data }], guard := none } : Oper)) rfl (fun K hK => ?_) AllReadyH.nil
     go_simp
     clear hHeld
     refine hK.out _ _ (SXb.out _ (rbx.out.below hAA.out)) (fun hHeld => ?_)
     clear hK K
     try simp only [Act.put, zsA, zsZ, zsS]
     refine wpAnyH_ready (rs := [9]) (by kernel_rfl) (by simp) ?_
     refine AllReadyH.cons (o := ({ dst := some 35, op := .call { callee := .builtin .append, args := #[.tmp 31, .tmp 34], argTypes := #[48, 48] }, type := 48, pos := "ndfs.go:84", after := #[{ on := 5, ground := .data }, { on := 8, ground := .data }], guard := none } : Oper)) rfl (fun K hK => ?_) AllReadyH.nil
     (refine step_appR ?_ (.tmp 31) (.tmp 34) 48 TPP (.agg #[.int .i64 0, .int .i64 0, .int .i64 0]) 3 24 ?_ Try.underlying48 infoQ rfl (by decide) w1.heap.size sa ns sc (qcells stem) ?_ OW.out wB.heap.size 1 [.int .i64 xn, .int .i64 xs, .int .i64 xt] ?_ rfl nc.out oc.out n5.out y5.out hBA.out ?_; exact rfl; exact rfl; exact rfl; exact rfl; intro a' c' w7 ho7 hg7 hat7)
     obtain ⟨d7, f7, hs7, rb7, rb8, te7⟩ := T7.out a' c' w7 ho7 hg7 hat7
     have S7 := Lib.hid (SXb.out _ rb7)
     have S8 := Lib.hid (SXb.out _ rb8)
     replace te7 := Lib.hid te7
     clear rb7 rb8
     clear hHeld
     refine hK.out _ _ (S7.out) (fun hHeld => ?_)
     clear hK K
     try simp only [Act.put, zsA, zsZ, zsS]
     refine wpAnyH_take (i := 10) (oi := ({ dst := some 36, op := .nilCheck (.tmp 26), type := 0, pos := "ndfs.go:84", after := #[{ on := 0, ground := .data }, { on := 0, ground := .phase }, { on := 1, ground := .phase }, { on := 2, ground := .phase }, { on := 3, ground := .phase }, { on := 4, ground := .phase }, { on := 5, ground := .phase }, { on := 6, ground := .phase }, { on := 7, ground := .phase }, { on := 8, ground := .phase }, { on := 9, ground := .phase }], guard := none } : Oper)) (v := ?_) rfl (by kernel_rfl) (by kernel_rfl) (by kernel_rfl) (fun _ _ _ h => h) (Or.inl ⟨by rfl, ?_⟩) (by assumption) ?_
     case refine_2 => (intro w hSw; (try dsimp only at hSw); go_simp; try with_reducible rfl)
     try simp only [Act.put, zsA, zsZ, zsS]
     refine wpAnyH_take (i := 11) (oi := ({ dst := some 37, op := .fieldAddr 109 (.tmp 36) 2, type := 0, pos := "ndfs.go:84", after := #[{ on := 10, ground := .data }, { on := 0, ground := .phase }, { on := 1, ground := .phase }, { on := 2, ground := .phase }, { on := 3, ground := .phase }, { on := 4, ground := .phase }, { on := 5, ground := .phase }, { on := 6, ground := .phase }, { on := 7, ground := .phase }, { on := 8, ground := .phase }, { on := 9, ground := .phase }], guard := none } : Oper)) (v := ?_) rfl (by kernel_rfl) (by kernel_rfl) (by kernel_rfl) (fun _ _ _ h => h) (Or.inl ⟨by rfl, ?_⟩) (by assumption) ?_
     case refine_2 => (intro w hSw; (try dsimp only at hSw); go_simp; try with_reducible rfl)
     try simp only [Act.put, zsA, zsZ, zsS]
     refine wpAnyH_take (i := 12) (oi := ({ dst := some 38, op := .fieldAddr 50 (.tmp 37) 3, type := 0, pos := "ndfs.go:84", after := #[{ on := 11, ground := .data }, { on := 0, ground := .phase }, { on := 1, ground := .phase }, { on := 2, ground := .phase }, { on := 3, ground := .phase }, { on := 4, ground := .phase }, { on := 5, ground := .phase }, { on := 6, ground := .phase }, { on := 7, ground := .phase }, { on := 8, ground := .phase }, { on := 9, ground := .phase }], guard := none } : Oper)) (v := ?_) rfl (by kernel_rfl) (by kernel_rfl) (by kernel_rfl) (fun _ _ _ h => h) (Or.inl ⟨by rfl, ?_⟩) (by assumption) ?_
     case refine_2 => (intro w hSw; (try dsimp only at hSw); go_simp; try with_reducible rfl)
     try simp only [Act.put, zsA, zsZ, zsS]
     refine wpAnyH_ready (rs := [13]) (by kernel_rfl) (by simp) ?_
     refine AllReadyH.cons (o := ({ dst := none, op := .store 48 (.tmp 38) (.tmp 35), type := 0, pos := "ndfs.go:84", after := #[{ on := 12, ground := .data }, { on := 9, ground := .data }, { on := 9, ground := .chain }, { on := 0, ground := .phase }, { on := 1, ground := .phase }, { on := 2, ground := .phase }, { on := 3, ground := .phase }, { on := 4, ground := .phase }, { on := 5, ground := .phase }, { on := 6, ground := .phase }, { on := 7, ground := .phase }, { on := 8, ground := .phase }, { on := 9, ground := .phase }], guard := none } : Oper)) rfl (fun K hK => ?_) AllReadyH.nil
     go_simp
     clear hHeld
     refine hK.out _ _ (S8.out) (fun hHeld => ?_)
     clear hK K
     try simp only [Act.put, zsA, zsZ, zsS]
     refine wpAnyH_done (by kernel_rfl) ?_ _
     clear hHeld OW nc oc n5 y5 hBA T7 SXb hAA x0 x1 x2 d8 d7 f7 S7 S8 te tA rbx
     go_wp2
     go_roundw
     case rel => exact ⟨k + 1, a', c', la, lc, by go_num, by omega, by rw [← h1s.out, ← h1l.out]; exact te7⟩
     case measure => simp [intOf]; omega
    ·go_simp
     clear hHeld
     refine hK.out _ _ (SXb.out _ (rbx.out.below hAA.out)) (fun hHeld => ?_)
     clear hK K
     try simp only [Act.put, zsA, zsZ, zsS]
     refine wpAnyH_ready (rs := [5]) (by kernel_rfl) (by simp) ?_
     refine AllReadyH.cons (o := ({ dst := some 31, op := .load 48 (.tmp 30), type := 48, pos := "ndfs.go:84", after := #[{ on := 4, ground := .data }], guard := none } : Oper)) rfl (fun K hK => ?_) AllReadyH.nil
     go_simp
     clear hHeld
     refine hK.out _ _ (SXb.out _ (rbx.out.below hAA.out)) (fun hHeld => ?_)
     clear hK K
     try simp only [Act.put, zsA, zsZ, zsS]
     refine wpAnyH_ready (rs := [9]) (by kernel_rfl) (by simp) ?_
     refine AllReadyH.cons (o := ({ dst := some 35, op := .call { callee := .builtin .append, args := #[.tmp 31, .tmp 34], argTypes := #[48, 48] }, type := 48, pos := "ndfs.go:84", after := #[{ on := 5, ground := .data }, { on := 8, ground := .data }], guard := none } : Oper)) rfl (fun K hK => ?_) AllReadyH.nil
     (refine step_appR ?_ (.tmp 31) (.tmp 34) 48 TPP (.agg #[.int .i64 0, .int .i64 0, .int .i64 0]) 3 24 ?_ Try.underlying48 infoQ rfl (by decide) w1.heap.size sa ns sc (qcells stem) ?_ OW.out wB.heap.size 1 [.int .i64 xn, .int .i64 xs, .int .i64 xt] ?_ rfl nc.out oc.out n5.out y5.out hBA.out ?_; exact rfl; exact rfl; exact rfl; exact rfl; intro a' c' w7 ho7 hg7 hat7)
     obtain ⟨d7, f7, hs7, rb7, rb8, te7⟩ := T7.out a' c' w7 ho7 hg7 hat7
     have S7 := Lib.hid (SXb.out _ rb7)
     have S8 := Lib.hid (SXb.out _ rb8)
     replace te7 := Lib.hid te7
     clear rb7 rb8
     clear hHeld
     refine hK.out _ _ (S7.out) (fun hHeld => ?_)
     clear hK K
     try simp only [Act.put, zsA, zsZ, zsS]
     refine wpAnyH_take (i := 10) (oi := ({ dst := some 36, op := .nilCheck (.tmp 26), type := 0, pos := "ndfs.go:84", after := #[{ on := 0, ground := .data }, { on := 0, ground := .phase }, { on := 1, ground := .phase }, { on := 2, ground := .phase }, { on := 3, ground := .phase }, { on := 4, ground := .phase }, { on := 5, ground := .phase }, { on := 6, ground := .phase }, { on := 7, ground := .phase }, { on := 8, ground := .phase }, { on := 9, ground := .phase }], guard := none } : Oper)) (v := ?_) rfl (by kernel_rfl) (by kernel_rfl) (by kernel_rfl) (fun _ _ _ h => h) (Or.inl ⟨by rfl, ?_⟩) (by assumption) ?_
     case refine_2 => (intro w hSw; (try dsimp only at hSw); go_simp; try with_reducible rfl)
     try simp only [Act.put, zsA, zsZ, zsS]
     refine wpAnyH_take (i := 11) (oi := ({ dst := some 37, op := .fieldAddr 109 (.tmp 36) 2, type := 0, pos := "ndfs.go:84", after := #[{ on := 10, ground := .data }, { on := 0, ground := .phase }, { on := 1, ground := .phase }, { on := 2, ground := .phase }, { on := 3, ground := .phase }, { on := 4, ground := .phase }, { on := 5, ground := .phase }, { on := 6, ground := .phase }, { on := 7, ground := .phase }, { on := 8, ground := .phase }, { on := 9, ground := .phase }], guard := none } : Oper)) (v := ?_) rfl (by kernel_rfl) (by kernel_rfl) (by kernel_rfl) (fun _ _ _ h => h) (Or.inl ⟨by rfl, ?_⟩) (by assumption) ?_
     case refine_2 => (intro w hSw; (try dsimp only at hSw); go_simp; try with_reducible rfl)
     try simp only [Act.put, zsA, zsZ, zsS]
     refine wpAnyH_take (i := 12) (oi := ({ dst := some 38, op := .fieldAddr 50 (.tmp 37) 3, type := 0, pos := "ndfs.go:84", after := #[{ on := 11, ground := .data }, { on := 0, ground := .phase }, { on := 1, ground := .phase }, { on := 2, ground := .phase }, { on := 3, ground := .phase }, { on := 4, ground := .phase }, { on := 5, ground := .phase }, { on := 6, ground := .phase }, { on := 7, ground := .phase }, { on := 8, ground := .phase }, { on := 9, ground := .phase }], guard := none } : Oper)) (v := ?_) rfl (by kernel_rfl) (by kernel_rfl) (by kernel_rfl) (fun _ _ _ h => h) (Or.inl ⟨by rfl, ?_⟩) (by assumption) ?_
     case refine_2 => (intro w hSw; (try dsimp only at hSw); go_simp; try with_reducible rfl)
     try simp only [Act.put, zsA, zsZ, zsS]
     refine wpAnyH_ready (rs := [13]) (by kernel_rfl) (by simp) ?_
     refine AllReadyH.cons (o := ({ dst := none, op := .store 48 (.tmp 38) (.tmp 35), type := 0, pos := "ndfs.go:84", after := #[{ on := 12, ground := .data }, { on := 9, ground := .data }, { on := 9, ground := .chain }, { on := 0, ground := .phase }, { on := 1, ground := .phase }, { on := 2, ground := .phase }, { on := 3, ground := .phase }, { on := 4, ground := .phase }, { on := 5, ground := .phase }, { on := 6, ground := .phase }, { on := 7, ground := .phase }, { on := 8, ground := .phase }, { on := 9, ground := .phase }], guard := none } : Oper)) rfl (fun K hK => ?_) AllReadyH.nil
     go_simp
     clear hHeld
     refine hK.out _ _ (S8.out) (fun hHeld => ?_)
     clear hK K
     try simp only [Act.put, zsA, zsZ, zsS]
     refine wpAnyH_done (by kernel_rfl) ?_ _
     clear hHeld OW nc oc n5 y5 hBA T7 SXb hAA x0 x1 x2 d8 d7 f7 S7 S8 te tA rbx
     go_wp2
     go_roundw
     case rel => exact ⟨k + 1, a', c', la, lc, by go_num, by omega, by rw [← h1s.out, ← h1l.out]; exact te7⟩
     case measure => simp [intOf]; omega
   ·have hkiI : ¬ (k : Int) < (i : Int) := by omega
    have h1s : Hid (stem = (P.take (k + 1)).take i) := by
     show _ = _
     rw [hst, List.take_take, List.take_take, Nat.min_eq_left (by omega), Nat.min_eq_left (by omega)]
    have h1l : Hid (loop ++ [⟨xn, xs, xt⟩] = (P.take (k + 1)).drop i) := by
     show _ = _
     rw [htk.out, hlo, List.drop_append_of_le_length (by rw [List.length_take]; omega)]
    go_wp2
    clear s0 s1 s2 s3 s4
    have tA := Lib.hid (te.out.below hbA.out)
    have hm9 := tA.out.row.cell 9
    have d9 : (wr.alloc (.cells #[.int .i64 xn, .int .i64 xs, .int .i64 xt, .slice an ln cn, .int .i64 xm] TSp)).cell? ⟨sB, 9, none⟩ = some (.slice la nl lc) := by
     rw [tA.out.row.cell 9]
     have := tA.out.rl
     simp [this, hnl.out]
    have x0 : (wr.alloc (.cells #[.int .i64 xn, .int .i64 xs, .int .i64 xt, .slice an ln cn, .int .i64 xm] TSp)).cell? ⟨wr.heap.size, 0, none⟩ = some (.int .i64 xn) := rbx.out.cell 0
    have x1 : (wr.alloc (.cells #[.int .i64 xn, .int .i64 xs, .int .i64 xt, .slice an ln cn, .int .i64 xm] TSp)).cell? ⟨wr.heap.size, 1, none⟩ = some (.int .i64 xs) := rbx.out.cell 1
    have x2 : (wr.alloc (.cells #[.int .i64 xn, .int .i64 xs, .int .i64 xt, .slice an ln cn, .int .i64 xm] TSp)).cell? ⟨wr.heap.size, 2, none⟩ = some (.int .i64 xt) := rbx.out.cell 2
    obtain ⟨wB, hwB⟩ : ∃ wB, wB = wr.alloc (.cells #[.int .i64 xn, .int .i64 xs, .int .i64 xt, .slice an ln cn, .int .i64 xm] TSp) := ⟨_, rfl⟩
    have hszB : Hid (wB.heap.size = wr.heap.size + 1) := by show _ = _; rw [hwB]; simp
    rw [← hwB] at tA rbx d9 x0 x1 x2 ⊢
    clear hwB hm9
    have hxB : wr.heap.size < wB.heap.size := rbx.out.lt
    have hsB : sB < wB.heap.size := by have := tA.out.hs; have := tA.out.keep.size; omega
    have hAA : Hid (Below wB.heap.size wB (wB.drew.alloc (.cells #[.int .i64 xn, .int .i64 xs, .int .i64 xt] TPP))) := balloc (Below.refl _ _).drew _
    have OW : Hid (OwnR (wB.drew.alloc (.cells #[.int .i64 xn, .int .i64 xs, .int .i64 xt] TPP)) w1.heap.size TPP 3 la nl lc (qcells loop)) := by
     have h := (tA.out.below hAA.out).lo
     unfold OwnQ at h
     rw [← hnl.out] at h
     exact h
    have nc : Hid (∀ j u, [Value.int .i64 xn, .int .i64 xs, .int .i64 xt][j]? = some u → (wB.drew.alloc (.cells #[.int .i64 xn, .int .i64 xs, .int .i64 xt] TPP)).cell? ((⟨wB.heap.size, 0, none⟩ : Addr).add j) = some u) := new_cells wB.drew #[.int .i64 xn, .int .i64 xs, .int .i64 xt] TPP rfl
    have oc : Hid (∀ u ∈ [Value.int .i64 xn, .int .i64 xs, .int .i64 xt], u.oneCell' = true) := fun u hu => by simp at hu; rcases hu with rfl | rfl | rfl <;> rfl
    have n5 : Hid (nl + 1 ≤ maxLen) := by show _ ≤ _; unfold maxLen; have := hln.out; omega
    have y5 : Hid ((nl + 1) * 24 ≤ 140737488355328) := by show _ ≤ _; have := hln.out; omega
    have hBA : Hid (w1.heap.size ≤ (wB.drew.alloc (.cells #[.int .i64 xn, .int .i64 xs, .int .i64 xt] TPP)).heap.size) := by
     show _ ≤ _
     have := tA.out.keep.size
     have := hAA.out.size
     omega
    have SXb : Hid (∀ v, RowAt v wr.heap.size TSp [.int .i64 xn, .int .i64 xs, .int .i64 xt, .slice an ln cn, .int .i64 xm] → v.cell? ⟨wr.heap.size, 0, none⟩ = some (.int .i64 xn) ∧ v.cell? ⟨wr.heap.size, 1, none⟩ = some (.int .i64 xs) ∧ v.cell? ⟨wr.heap.size, 2, none⟩ = some (.int .i64 xt)) := fun v h => ⟨h.cell 0, h.cell 1, h.cell 2⟩
    have T7 : Hid (∀ a' c' v', OwnR v' w1.heap.size TPP 3 a' (nl + 1) c' (qcells loop ++ [.int .i64 xn, .int .i64 xs, .int .i64 xt]) → (wB.drew.alloc (.cells #[.int .i64 xn, .int .i64 xs, .int .i64 xt] TPP)).grownBy v' (OB la nl lc) → (OB a' (nl + 1) c' = OB la nl lc ∨ OB a' (nl + 1) c' = some (wB.drew.alloc (.cells #[.int .i64 xn, .int .i64 xs, .int .i64 xt] TPP)).heap.size) →
      v'.cell? ⟨sB, 9, none⟩ = some (.slice la nl lc) ∧ v'.frozen? ⟨sB, 9, none⟩ = false ∧ sB < v'.heap.size ∧ RowAt v' wr.heap.size TSp [.int .i64 xn, .int .i64 xs, .int .i64 xt, .slice an ln cn, .int .i64 xm] ∧ RowAt (v'.setCell ⟨sB, 9, none⟩ (.slice a' (nl + 1) c')) wr.heap.size TSp [.int .i64 xn, .int .i64 xs, .int .i64 xt, .slice an ln cn, .int .i64 xm] ∧ TellAt w1 (v'.setCell ⟨sB, 9, none⟩ (.slice a' (nl + 1) c')) sB rv sa sc stem a' c' (loop ++ [⟨xn, xs, xt⟩])) := fun a' c' v' ho hg hat => by
     have hlo := hnl.out
     rw [hlo] at ho hg hat ⊢
     obtain ⟨r1, r2, r3⟩ := TellAt.loopL (x := ⟨xn, xs, xt⟩) tA.out hAA.out ho hg hat
     have rb1 := rbx.out.keeps r3 (fun e => by have h1 := te.out.lo; have := (OwnR.lt h1 e).2; omega)
     refine ⟨?_, r1.free 9, r1.lt, rb1, rb1.other (by have := tA.out.hs; have := te.out.keep.size; omega) 9 _, r2⟩
     rw [r1.cell 9]
     have := tA.out.rl
     simp [this]
    refine wp_region_held_drew (S := (fun w' => w'.cell? ⟨wr.heap.size, 0, none⟩ = some (.int .i64 xn) ∧ w'.cell? ⟨wr.heap.size, 1, none⟩ = some (.int .i64 xs) ∧ w'.cell? ⟨wr.heap.size, 2, none⟩ = some (.int .i64 xt))) (by kernel_rfl) (SXb.out _ (rbx.out.below (Below.refl _ _).drew)) (fun hHeld => ?_)
    refine wpAnyH_take (i := 0) (oi := ({ dst := some 39, op := .move (.tmp 0), type := 103, pos := "ndfs.go:86", after := #[], guard := none } : Oper)) (v := ?_) rfl (by kernel_rfl) (by kernel_rfl) (by kernel_rfl) (fun _ _ _ h => h) (Or.inl ⟨by rfl, ?_⟩) (by assumption) ?_
    case refine_2 => (intro w hSw; (try dsimp only at hSw); go_simp; try with_reducible rfl)
    try simp only [Act.put, zsA, zsZ, zsS]
    refine wpAnyH_take (i := 1) (oi := ({ dst := some 40, op := .move (.tmp 0), type := 103, pos := "ndfs.go:86", after := #[], guard := none } : Oper)) (v := ?_) rfl (by kernel_rfl) (by kernel_rfl) (by kernel_rfl) (fun _ _ _ h => h) (Or.inl ⟨by rfl, ?_⟩) (by assumption) ?_
    case refine_2 => (intro w hSw; (try dsimp only at hSw); go_simp; try with_reducible rfl)
    try simp only [Act.put, zsA, zsZ, zsS]
    refine wpAnyH_take (i := 2) (oi := ({ dst := some 41, op := .nilCheck (.tmp 40), type := 0, pos := "ndfs.go:86", after := #[{ on := 1, ground := .data }], guard := none } : Oper)) (v := ?_) rfl (by kernel_rfl) (by kernel_rfl) (by kernel_rfl) (fun _ _ _ h => h) (Or.inl ⟨by rfl, ?_⟩) (by assumption) ?_
    case refine_2 => (intro w hSw; (try dsimp only at hSw); go_simp; try with_reducible rfl)
    try simp only [Act.put, zsA, zsZ, zsS]
    refine wpAnyH_take (i := 3) (oi := ({ dst := some 42, op := .fieldAddr 109 (.tmp 41) 2, type := 0, pos := "ndfs.go:86", after := #[{ on := 2, ground := .data }], guard := none } : Oper)) (v := ?_) rfl (by kernel_rfl) (by kernel_rfl) (by kernel_rfl) (fun _ _ _ h => h) (Or.inl ⟨by rfl, ?_⟩) (by assumption) ?_
    case refine_2 => (intro w hSw; (try dsimp only at hSw); go_simp; try with_reducible rfl)
    try simp only [Act.put, zsA, zsZ, zsS]
    refine wpAnyH_take (i := 4) (oi := ({ dst := some 43, op := .fieldAddr 50 (.tmp 42) 4, type := 0, pos := "ndfs.go:86", after := #[{ on := 3, ground := .data }], guard := none } : Oper)) (v := ?_) rfl (by kernel_rfl) (by kernel_rfl) (by kernel_rfl) (fun _ _ _ h => h) (Or.inl ⟨by rfl, ?_⟩) (by assumption) ?_
    case refine_2 => (intro w hSw; (try dsimp only at hSw); go_simp; try with_reducible rfl)
    try simp only [Act.put, zsA, zsZ, zsS]
    refine wpAnyH_take (i := 6) (oi := ({ dst := some 45, op := .fieldAddr 143 (.tmp 5) 0, type := 0, pos := "ndfs.go:86", after := #[], guard := none } : Oper)) (v := ?_) rfl (by kernel_rfl) (by kernel_rfl) (by kernel_rfl) (fun _ _ _ h => h) (Or.inl ⟨by rfl, ?_⟩) (by assumption) ?_
    case refine_2 => (intro w hSw; (try dsimp only at hSw); go_simp; try with_reducible rfl)
    try simp only [Act.put, zsA, zsZ, zsS]
    refine wpAnyH_take (i := 7) (oi := ({ dst := some 46, op := .load 82 (.tmp 45), type := 82, pos := "ndfs.go:86", after := #[{ on := 6, ground := .data }], guard := none } : Oper)) (v := ?_) rfl (by kernel_rfl) (by kernel_rfl) (by kernel_rfl) (fun _ _ _ h => h) (Or.inl ⟨by rfl, ?_⟩) (by assumption) ?_
    case refine_2 => (intro w hSw; (try dsimp only at hSw); go_simp; try with_reducible rfl)
    try simp only [Act.put, zsA, zsZ, zsS]
    refine wpAnyH_ready (rs := [5, 8]) (by kernel_rfl) (by simp) ?_
    refine AllReadyH.cons (o := ({ dst := some 44, op := .load 48 (.tmp 43), type := 48, pos := "ndfs.go:86", after := #[{ on := 4, ground := .data }], guard := none } : Oper)) rfl (fun K hK => ?_) (AllReadyH.cons (o := ({ dst := some 47, op := .buildSlice 48 1 #[(0, .tmp 46)], type := 48, pos := "ndfs.go:86", after := #[{ on := 7, ground := .data }], guard := none } : Oper)) rfl (fun K hK => ?_) AllReadyH.nil)
    ·go_simp
     clear hHeld
     refine hK.out _ _ (SXb.out _ (rbx.out.below (Below.refl _ _).drew)) (fun hHeld => ?_)
     clear hK K
     try simp only [Act.put, zsA, zsZ, zsS]
     refine wpAnyH_ready (rs := [8]) (by kernel_rfl) (by simp) ?_
     refine AllReadyH.cons (o := ({ dst := some 47, op := .buildSlice 48 1 #[(0, .tmp 46)], type := 48, pos := "ndfs.go:86", after := #[{ on := 7, ground := .data }], guard := none } : Oper)) rfl (fun K hK => ?_) AllReadyH.nil
     go_simp
     clear hHeld
     refine hK.out _ _ (SXb.out _ (rbx.out.below hAA.out)) (fun hHeld => ?_)
     clear hK K
     try simp only [Act.put, zsA, zsZ, zsS]
     refine wpAnyH_ready (rs := [9]) (by kernel_rfl) (by simp) ?_
     refine AllReadyH.cons (o := ({ dst := some 48, op := .call { callee := .builtin .append, args := #[.tmp 44, .tmp 47], argTypes := #[48, 48] }, type := 48, pos := "ndfs.go:86", after := #[{ on := 5, ground := .data }, { on := 8, ground := .data }], guard := none } : Oper)) rfl (fun K hK => ?_) AllReadyH.nil
     (refine step_appR ?_ (.tmp 44) (.tmp 47) 48 TPP (.agg #[.int .i64 0, .int .i64 0, .int .i64 0]) 3 24 ?_ Try.underlying48 infoQ rfl (by decide) w1.heap.size la nl lc (qcells loop) ?_ OW.out wB.heap.size 1 [.int .i64 xn, .int .i64 xs, .int .i64 xt] ?_ rfl nc.out oc.out n5.out y5.out hBA.out ?_; exact rfl; exact rfl; exact rfl; exact rfl; intro a' c' w7 ho7 hg7 hat7)
     obtain ⟨d7, f7, hs7, rb7, rb8, te7⟩ := T7.out a' c' w7 ho7 hg7 hat7
     have S7 := Lib.hid (SXb.out _ rb7)
     have S8 := Lib.hid (SXb.out _ rb8)
     replace te7 := Lib.hid te7
     clear rb7 rb8
     clear hHeld
     refine hK.out _ _ (S7.out) (fun hHeld => ?_)
     clear hK K
     try simp only [Act.put, zsA, zsZ, zsS]
     refine wpAnyH_take (i := 10) (oi := ({ dst := some 49, op := .nilCheck (.tmp 39), type := 0, pos := "ndfs.go:86", after := #[{ on := 0, ground := .data }, { on := 0, ground := .phase }, { on := 1, ground := .phase }, { on := 2, ground := .phase }, { on := 3, ground := .phase }, { on := 4, ground := .phase }, { on := 5, ground := .phase }, { on := 6, ground := .phase }, { on := 7, ground := .phase }, { on := 8, ground := .phase }, { on := 9, ground := .phase }], guard := none } : Oper)) (v := ?_) rfl (by kernel_rfl) (by kernel_rfl) (by kernel_rfl) (fun _ _ _ h => h) (Or.inl ⟨by rfl, ?_⟩) (by assumption) ?_
     case refine_2 => (intro w hSw; (try dsimp only at hSw); go_simp; try with_reducible rfl)
     try simp only [Act.put, zsA, zsZ, zsS]
     refine wpAnyH_take (i := 11) (oi := ({ dst := some 50, op := .fieldAddr 109 (.tmp 49) 2, type := 0, pos := "ndfs.go:86", after := #[{ on := 10, ground := .data }, { on := 0, ground := .phase }, { on := 1, ground := .phase }, { on := 2, ground := .phase }, { on := 3, ground := .phase }, { on := 4, ground := .phase }, { on := 5, ground := .phase }, { on := 6, ground := .phase }, { on := 7, ground := .phase }, { on := 8, ground := .phase }, { on := 9, ground := .phase }], guard := none } : Oper)) (v := ?_) rfl (by kernel_rfl) (by kernel_rfl) (by kernel_rfl) (fun _ _ _ h => h) (Or.inl ⟨by rfl, ?_⟩) (by assumption) ?_
     case refine_2 => (intro w hSw; (try dsimp only at hSw); go_simp; try with_reducible rfl)
     try simp only [Act.put, zsA, zsZ, zsS]
     refine wpAnyH_take (i := 12) (oi := ({ dst := some 51, op := .fieldAddr 50 (.tmp 50) 4, type := 0, pos := "ndfs.go:86", after := #[{ on := 11, ground := .data }, { on := 0, ground := .phase }, { on := 1, ground := .phase }, { on := 2, ground := .phase }, { on := 3, ground := .phase }, { on := 4, ground := .phase }, { on := 5, ground := .phase }, { on := 6, ground := .phase }, { on := 7, ground := .phase }, { on := 8, ground := .phase }, { on := 9, ground := .phase }], guard := none } : Oper)) (v := ?_) rfl (by kernel_rfl) (by kernel_rfl) (by kernel_rfl) (fun _ _ _ h => h) (Or.inl ⟨by rfl, ?_⟩) (by assumption) ?_
     case refine_2 => (intro w hSw; (try dsimp only at hSw); go_simp; try with_reducible rfl)
     try simp only [Act.put, zsA, zsZ, zsS]
     refine wpAnyH_ready (rs := [13]) (by kernel_rfl) (by simp) ?_
     refine AllReadyH.cons (o := ({ dst := none, op := .store 48 (.tmp 51) (.tmp 48), type := 0, pos := "ndfs.go:86", after := #[{ on := 12, ground := .data }, { on := 9, ground := .data }, { on := 9, ground := .chain }, { on := 0, ground := .phase }, { on := 1, ground := .phase }, { on := 2, ground := .phase }, { on := 3, ground := .phase }, { on := 4, ground := .phase }, { on := 5, ground := .phase }, { on := 6, ground := .phase }, { on := 7, ground := .phase }, { on := 8, ground := .phase }, { on := 9, ground := .phase }], guard := none } : Oper)) rfl (fun K hK => ?_) AllReadyH.nil
     go_simp
     clear hHeld
     refine hK.out _ _ (S8.out) (fun hHeld => ?_)
     clear hK K
     try simp only [Act.put, zsA, zsZ, zsS]
     refine wpAnyH_done (by kernel_rfl) ?_ _
     clear hHeld OW nc oc n5 y5 hBA T7 SXb hAA x0 x1 x2 d9 d7 f7 S7 S8 te tA rbx
     go_wp2
     go_roundw
     case rel => exact ⟨k + 1, sa, sc, a', c', by go_num, by omega, by rw [← h1s.out, ← h1l.out]; exact te7⟩
     case measure => simp [intOf]; omega
    ·go_simp
     clear hHeld
     refine hK.out _ _ (SXb.out _ (rbx.out.below hAA.out)) (fun hHeld => ?_)
     clear hK K
     try simp only [Act.put, zsA, zsZ, zsS]
     refine wpAnyH_ready (rs := [5]) (by kernel_rfl) (by simp) ?_
     refine AllReadyH.cons (o := ({ dst := some 44, op := .load 48 (.tmp 43), type := 48, pos := "ndfs.go:86", after := #[{ on := 4, ground := .data }], guard := none } : Oper)) rfl (fun K hK => ?_) AllReadyH.nil
     go_simp
     clear hHeld
     refine hK.out _ _ (SXb.out _ (rbx.out.below hAA.out)) (fun hHeld => ?_)
     clear hK K
     try simp only [Act.put, zsA, zsZ, zsS]
     refine wpAnyH_ready (rs := [9]) (by kernel_rfl) (by simp) ?_
     refine AllReadyH.cons (o := ({ dst := some 48, op := .call { callee := .builtin .append, args := #[.tmp 44, .tmp 47], argTypes := #[48, 48] }, type := 48, pos := "ndfs.go:86", after := #[{ on := 5, ground := .data }, { on := 8, ground := .data }], guard := none } : Oper)) rfl (fun K hK => ?_) AllReadyH.nil
     (refine step_appR ?_ (.tmp 44) (.tmp 47) 48 TPP (.agg #[.int .i64 0, .int .i64 0, .int .i64 0]) 3 24 ?_ Try.underlying48 infoQ rfl (by decide) w1.heap.size la nl lc (qcells loop) ?_ OW.out wB.heap.size 1 [.int .i64 xn, .int .i64 xs, .int .i64 xt] ?_ rfl nc.out oc.out n5.out y5.out hBA.out ?_; exact rfl; exact rfl; exact rfl; exact rfl; intro a' c' w7 ho7 hg7 hat7)
     obtain ⟨d7, f7, hs7, rb7, rb8, te7⟩ := T7.out a' c' w7 ho7 hg7 hat7
     have S7 := Lib.hid (SXb.out _ rb7)
     have S8 := Lib.hid (SXb.out _ rb8)
     replace te7 := Lib.hid te7
     clear rb7 rb8
     clear hHeld
     refine hK.out _ _ (S7.out) (fun hHeld => ?_)
     clear hK K
     try simp only [Act.put, zsA, zsZ, zsS]
     refine wpAnyH_take (i := 10) (oi := ({ dst := some 49, op := .nilCheck (.tmp 39), type := 0, pos := "ndfs.go:86", after := #[{ on := 0, ground := .data }, { on := 0, ground := .phase }, { on := 1, ground := .phase }, { on := 2, ground := .phase }, { on := 3, ground := .phase }, { on := 4, ground := .phase }, { on := 5, ground := .phase }, { on := 6, ground := .phase }, { on := 7, ground := .phase }, { on := 8, ground := .phase }, { on := 9, ground := .phase }], guard := none } : Oper)) (v := ?_) rfl (by kernel_rfl) (by kernel_rfl) (by kernel_rfl) (fun _ _ _ h => h) (Or.inl ⟨by rfl, ?_⟩) (by assumption) ?_
     case refine_2 => (intro w hSw; (try dsimp only at hSw); go_simp; try with_reducible rfl)
     try simp only [Act.put, zsA, zsZ, zsS]
     refine wpAnyH_take (i := 11) (oi := ({ dst := some 50, op := .fieldAddr 109 (.tmp 49) 2, type := 0, pos := "ndfs.go:86", after := #[{ on := 10, ground := .data }, { on := 0, ground := .phase }, { on := 1, ground := .phase }, { on := 2, ground := .phase }, { on := 3, ground := .phase }, { on := 4, ground := .phase }, { on := 5, ground := .phase }, { on := 6, ground := .phase }, { on := 7, ground := .phase }, { on := 8, ground := .phase }, { on := 9, ground := .phase }], guard := none } : Oper)) (v := ?_) rfl (by kernel_rfl) (by kernel_rfl) (by kernel_rfl) (fun _ _ _ h => h) (Or.inl ⟨by rfl, ?_⟩) (by assumption) ?_
     case refine_2 => (intro w hSw; (try dsimp only at hSw); go_simp; try with_reducible rfl)
     try simp only [Act.put, zsA, zsZ, zsS]
     refine wpAnyH_take (i := 12) (oi := ({ dst := some 51, op := .fieldAddr 50 (.tmp 50) 4, type := 0, pos := "ndfs.go:86", after := #[{ on := 11, ground := .data }, { on := 0, ground := .phase }, { on := 1, ground := .phase }, { on := 2, ground := .phase }, { on := 3, ground := .phase }, { on := 4, ground := .phase }, { on := 5, ground := .phase }, { on := 6, ground := .phase }, { on := 7, ground := .phase }, { on := 8, ground := .phase }, { on := 9, ground := .phase }], guard := none } : Oper)) (v := ?_) rfl (by kernel_rfl) (by kernel_rfl) (by kernel_rfl) (fun _ _ _ h => h) (Or.inl ⟨by rfl, ?_⟩) (by assumption) ?_
     case refine_2 => (intro w hSw; (try dsimp only at hSw); go_simp; try with_reducible rfl)
     try simp only [Act.put, zsA, zsZ, zsS]
     refine wpAnyH_ready (rs := [13]) (by kernel_rfl) (by simp) ?_
     refine AllReadyH.cons (o := ({ dst := none, op := .store 48 (.tmp 51) (.tmp 48), type := 0, pos := "ndfs.go:86", after := #[{ on := 12, ground := .data }, { on := 9, ground := .data }, { on := 9, ground := .chain }, { on := 0, ground := .phase }, { on := 1, ground := .phase }, { on := 2, ground := .phase }, { on := 3, ground := .phase }, { on := 4, ground := .phase }, { on := 5, ground := .phase }, { on := 6, ground := .phase }, { on := 7, ground := .phase }, { on := 8, ground := .phase }, { on := 9, ground := .phase }], guard := none } : Oper)) rfl (fun K hK => ?_) AllReadyH.nil
     go_simp
     clear hHeld
     refine hK.out _ _ (S8.out) (fun hHeld => ?_)
     clear hK K
     try simp only [Act.put, zsA, zsZ, zsS]
     refine wpAnyH_done (by kernel_rfl) ?_ _
     clear hHeld OW nc oc n5 y5 hBA T7 SXb hAA x0 x1 x2 d9 d7 f7 S7 S8 te tA rbx
     go_wp2
     go_roundw
     case rel => exact ⟨k + 1, sa, sc, a', c', by go_num, by omega, by rw [← h1s.out, ← h1l.out]; exact te7⟩
     case measure => simp [intOf]; omega
  ·obtain rfl : n0 = k := by omega
   rw [← lP.out, List.take_length] at te
   have d11 : wr.cell? ⟨sB, 11, none⟩ = some (.slice X.a1 n1 X.c1) := by
    rw [te.out.row.cell 11, hrv.out]
    rfl
   have te1 : Hid (TellAt w1 wr sB rv sa sc (P.take i) la lc (P.drop i ++ Q.take 0)) := by rw [List.take_zero, List.append_nil]; exact te
   clear hk hkn te
   go_wp2
   clear d11
   go_loopw [59] (fun kv wr => ∃ (k : Nat) (sa : Option Addr) (sc : Nat) (la : Option Addr) (lc : Nat), kv = .int .i64 k ∧ k ≤ n1 ∧ Hid (TellAt w1 wr sB rv sa sc (P.take i) la lc (P.drop i ++ Q.take k))) (fun kv _ => n1 - (intOf kv).toNat)
   case atStart => exact ⟨0, sa, sc, la, lc, rfl, Nat.zero_le _, te1⟩
   case round =>
    obtain ⟨k, sa, sc, la, lc, rfl, hk, te⟩ := hrel
    clear te1
    by_cases hkn : k < n1
    ·have hkN : (k : Int) < (n1 : Int) := by omega
     have hkS : k < S1.length := by have := hn1.out; omega
     have hkP : k < Q.length := by have := lQ.out; omega
     have how := h5.out.own1
     rw [← hn1.out] at how
     obtain ⟨g, hg, hg1, hg2⟩ := OwnR.addr how (by omega)
     have hgs : g ≠ sB := hap.out.2.2.2.2 g (by rw [hg]; rfl)
     rw [hg] at how
     have cc : ∀ j, j < n1 * 5 → wr.cell? ⟨g, j, none⟩ = (spcells nx S1)[j]? := fun j hj => by
      rw [World.cell?_of_block (a := ⟨g, j, none⟩) (te.out.keep.block g hg2 (fun hh => hh.elim hgs (fun e => by omega)))]
      exact OwnR.cell how j hj
     obtain ⟨q0, q1, q2, q3, q4⟩ := spcells_at nx S1 k hkS
     have s0 := (cc (k * 5) (by omega)).trans q0
     have s1 := (cc (k * 5 + 1) (by omega)).trans q1
     have s2 := (cc (k * 5 + 2) (by omega)).trans q2
     have s3 := (cc (k * 5 + 3) (by omega)).trans q3
     have s4 := (cc (k * 5 + 4) (by omega)).trans q4
     have hPk : Q[k] = S1[k].1.1 := by
      have h := hP1.out
      have : (S1.map (·.1.1))[k]'(by rw [List.length_map]; exact hkS) = S1[k].1.1 := by simp
      rw [← this]
      simp only [h]
     have htk := take_snoc_at hkP
     rw [hPk] at htk
     generalize S1[k] = e at s0 s1 s2 s3 s4 htk
     obtain ⟨⟨⟨xn, xs, xt⟩, xm⟩, an, cn⟩ := e
     simp only at s0 s1 s2 s3 s4 htk
     obtain ⟨ln, hln_⟩ : ∃ ln, ln = (nx ⟨xn, xs, xt⟩).length := ⟨_, rfl⟩
     rw [← hln_] at s3
     have hbA : Hid (Below wr.heap.size wr (wr.alloc (.cells #[.int .i64 xn, .int .i64 xs, .int .i64 xt, .slice an ln cn, .int .i64 xm] TSp))) := balloc (Below.refl _ _) _
     have rbx : Hid (RowAt (wr.alloc (.cells #[.int .i64 xn, .int .i64 xs, .int .i64 xt, .slice an ln cn, .int .i64 xm] TSp)) wr.heap.size TSp [.int .i64 xn, .int .i64 xs, .int .i64 xt, .slice an ln cn, .int .i64 xm]) := RowAt.new #[.int .i64 xn, .int .i64 xs, .int .i64 xt, .slice an ln cn, .int .i64 xm] rfl
     have ha0 := hg
     replace htk := Lib.hid htk
     obtain ⟨stem, hst⟩ : ∃ l, l = P.take i := ⟨_, rfl⟩
     obtain ⟨loop, hlo⟩ : ∃ l, l = P.drop i ++ Q.take k := ⟨_, rfl⟩
     rw [← hst, ← hlo] at te
     obtain ⟨ns, hns⟩ : ∃ n, n = stem.length := ⟨_, rfl⟩
     obtain ⟨nl, hnl⟩ : ∃ n, n = loop.length := ⟨_, rfl⟩
     have hln : Hid (ns ≤ 2000000 ∧ nl ≤ 2000000) := by
      constructor
      ·rw [hns, hst, List.length_take]; have := lP.out; omega
      ·rw [hnl, hlo, List.length_append, List.length_drop, List.length_take]; have := lP.out; omega
     have h1l : Hid (loop ++ [⟨xn, xs, xt⟩] = P.drop i ++ Q.take (k + 1)) := by
      show _ = _
      rw [htk.out, hlo, List.append_assoc]
     replace hns := Lib.hid hns
     replace hnl := Lib.hid hnl
     replace hst := Lib.hid hst
     clear how q0 q1 q2 q3 q4 cc hPk hln_ hg hkS hlo
     obtain ⟨a1v, ha1v⟩ : ∃ a, a = X.a1 := ⟨_, rfl⟩
     rw [← ha1v] at ha0 ⊢
     subst ha0
     replace ha1v := Lib.hid ha1v
     go_wp2
     clear s0 s1 s2 s3 s4
     have tA := Lib.hid (te.out.below hbA.out)
     have hm9 := tA.out.row.cell 9
     have d9 : (wr.alloc (.cells #[.int .i64 xn, .int .i64 xs, .int .i64 xt, .slice an ln cn, .int .i64 xm] TSp)).cell? ⟨sB, 9, none⟩ = some (.slice la nl lc) := by
      rw [tA.out.row.cell 9]
      have := tA.out.rl
      simp [this, hnl.out]
     have x0 : (wr.alloc (.cells #[.int .i64 xn, .int .i64 xs, .int .i64 xt, .slice an ln cn, .int .i64 xm] TSp)).cell? ⟨wr.heap.size, 0, none⟩ = some (.int .i64 xn) := rbx.out.cell 0
     have x1 : (wr.alloc (.cells #[.int .i64 xn, .int .i64 xs, .int .i64 xt, .slice an ln cn, .int .i64 xm] TSp)).cell? ⟨wr.heap.size, 1, none⟩ = some (.int .i64 xs) := rbx.out.cell 1
     have x2 : (wr.alloc (.cells #[.int .i64 xn, .int .i64 xs, .int .i64 xt, .slice an ln cn, .int .i64 xm] TSp)).cell? ⟨wr.heap.size, 2, none⟩ = some (.int .i64 xt) := rbx.out.cell 2
     obtain ⟨wB, hwB⟩ : ∃ wB, wB = wr.alloc (.cells #[.int .i64 xn, .int .i64 xs, .int .i64 xt, .slice an ln cn, .int .i64 xm] TSp) := ⟨_, rfl⟩
     have hszB : Hid (wB.heap.size = wr.heap.size + 1) := by show _ = _; rw [hwB]; simp
     rw [← hwB] at tA rbx d9 x0 x1 x2 ⊢
     clear hwB hm9
     have hxB : wr.heap.size < wB.heap.size := rbx.out.lt
     have hsB : sB < wB.heap.size := by have := tA.out.hs; have := tA.out.keep.size; omega
     have hAA : Hid (Below wB.heap.size wB (wB.drew.alloc (.cells #[.int .i64 xn, .int .i64 xs, .int .i64 xt] TPP))) := balloc (Below.refl _ _).drew _
     have OW : Hid (OwnR (wB.drew.alloc (.cells #[.int .i64 xn, .int .i64 xs, .int .i64 xt] TPP)) w1.heap.size TPP 3 la nl lc (qcells loop)) := by
      have h := (tA.out.below hAA.out).lo
      unfold OwnQ at h
      rw [← hnl.out] at h
      exact h
     have nc : Hid (∀ j u, [Value.int .i64 xn, .int .i64 xs, .int .i64 xt][j]? = some u → (wB.drew.alloc (.cells #[.int .i64 xn, .int .i64 xs, .int .i64 xt] TPP)).cell? ((⟨wB.heap.size, 0, none⟩ : Addr).add j) = some u) := new_cells wB.drew #[.int .i64 xn, .int .i64 xs, .int .i64 xt] TPP rfl
     have oc : Hid (∀ u ∈ [Value.int .i64 xn, .int .i64 xs, .int .i64 xt], u.oneCell' = true) := fun u hu => by simp at hu; rcases hu with rfl | rfl | rfl <;> rfl
     have n5 : Hid (nl + 1 ≤ maxLen) := by show _ ≤ _; unfold maxLen; have := hln.out; omega
     have y5 : Hid ((nl + 1) * 24 ≤ 140737488355328) := by show _ ≤ _; have := hln.out; omega
     have hBA : Hid (w1.heap.size ≤ (wB.drew.alloc (.cells #[.int .i64 xn, .int .i64 xs, .int .i64 xt] TPP)).heap.size) := by
      show _ ≤ _
      have := tA.out.keep.size
      have := hAA.out.size
      omega
     have SXb : Hid (∀ v, RowAt v wr.heap.size TSp [.int .i64 xn, .int .i64 xs, .int .i64 xt, .slice an ln cn, .int .i64 xm] → v.cell? ⟨wr.heap.size, 0, none⟩ = some (.int .i64 xn) ∧ v.cell? ⟨wr.heap.size, 1, none⟩ = some (.int .i64 xs) ∧ v.cell? ⟨wr.heap.size, 2, none⟩ = some (.int .i64 xt)) := fun v h => ⟨h.cell 0, h.cell 1, h.cell 2⟩
     have T7 : Hid (∀ a' c' v', OwnR v' w1.heap.size TPP 3 a' (nl + 1) c' (qcells loop ++ [.int .i64 xn, .int .i64 xs, .int .i64 xt]) → (wB.drew.alloc (.cells #[.int .i64 xn, .int .i64 xs, .int .i64 xt] TPP)).grownBy v' (OB la nl lc) → (OB a' (nl + 1) c' = OB la nl lc ∨ OB a' (nl + 1) c' = some (wB.drew.alloc (.cells #[.int .i64 xn, .int .i64 xs, .int .i64 xt] TPP)).heap.size) →
       v'.cell? ⟨sB, 9, none⟩ = some (.slice la nl lc) ∧ v'.frozen? ⟨sB, 9, none⟩ = false ∧ sB < v'.heap.size ∧ RowAt v' wr.heap.size TSp [.int .i64 xn, .int .i64 xs, .int .i64 xt, .slice an ln cn, .int .i64 xm] ∧ RowAt (v'.setCell ⟨sB, 9, none⟩ (.slice a' (nl + 1) c')) wr.heap.size TSp [.int .i64 xn, .int .i64 xs, .int .i64 xt, .slice an ln cn, .int .i64 xm] ∧ TellAt w1 (v'.setCell ⟨sB, 9, none⟩ (.slice a' (nl + 1) c')) sB rv sa sc stem a' c' (loop ++ [⟨xn, xs, xt⟩])) := fun a' c' v' ho hg hat => by
      have hlo := hnl.out
      rw [hlo] at ho hg hat ⊢
      obtain ⟨r1, r2, r3⟩ := TellAt.loopL (x := ⟨xn, xs, xt⟩) tA.out hAA.out ho hg hat
      have rb1 := rbx.out.keeps r3 (fun e => by have h1 := te.out.lo; have := (OwnR.lt h1 e).2; omega)
      refine ⟨?_, r1.free 9, r1.lt, rb1, rb1.other (by have := tA.out.hs; have := te.out.keep.size; omega) 9 _, r2⟩
      rw [r1.cell 9]
      have := tA.out.rl
      simp [this]
     refine wp_region_held_drew (S := (fun w' => w'.cell? ⟨wr.heap.size, 0, none⟩ = some (.int .i64 xn) ∧ w'.cell? ⟨wr.heap.size, 1, none⟩ = some (.int .i64 xs) ∧ w'.cell? ⟨wr.heap.size, 2, none⟩ = some (.int .i64 xt))) (by kernel_rfl) (SXb.out _ (rbx.out.below (Below.refl _ _).drew)) (fun hHeld => ?_)
     refine wpAnyH_take (i := 0) (oi := ({ dst := some 63, op := .move (.tmp 0), type := 103, pos := "ndfs.go:90", after := #[], guard := none } : Oper)) (v := ?_) rfl (by kernel_rfl) (by kernel_rfl) (by kernel_rfl) (fun _ _ _ h => h) (Or.inl ⟨by rfl, ?_⟩) (by assumption) ?_
     case refine_2 => (intro w hSw; (try dsimp only at hSw); go_simp; try with_reducible rfl)
     try simp only [Act.put, zsA, zsZ, zsS]
     refine wpAnyH_take (i := 1) (oi := ({ dst := some 64, op := .move (.tmp 0), type := 103, pos := "ndfs.go:90", after := #[], guard := none } : Oper)) (v := ?_) rfl (by kernel_rfl) (by kernel_rfl) (by kernel_rfl) (fun _ _ _ h => h) (Or.inl ⟨by rfl, ?_⟩) (by assumption) ?_
     case refine_2 => (intro w hSw; (try dsimp only at hSw); go_simp; try with_reducible rfl)
     try simp only [Act.put, zsA, zsZ, zsS]
     refine wpAnyH_take (i := 2) (oi := ({ dst := some 65, op := .nilCheck (.tmp 64), type := 0, pos := "ndfs.go:90", after := #[{ on := 1, ground := .data }], guard := none } : Oper)) (v := ?_) rfl (by kernel_rfl) (by kernel_rfl) (by kernel_rfl) (fun _ _ _ h => h) (Or.inl ⟨by rfl, ?_⟩) (by assumption) ?_
     case refine_2 => (intro w hSw; (try dsimp only at hSw); go_simp; try with_reducible rfl)
     try simp only [Act.put, zsA, zsZ, zsS]
     refine wpAnyH_take (i := 3) (oi := ({ dst := some 66, op := .fieldAddr 109 (.tmp 65) 2, type := 0, pos := "ndfs.go:90", after := #[{ on := 2, ground := .data }], guard := none } : Oper)) (v := ?_) rfl (by kernel_rfl) (by kernel_rfl) (by kernel_rfl) (fun _ _ _ h => h) (Or.inl ⟨by rfl, ?_⟩) (by assumption) ?_
     case refine_2 => (intro w hSw; (try dsimp only at hSw); go_simp; try with_reducible rfl)
     try simp only [Act.put, zsA, zsZ, zsS]
     refine wpAnyH_take (i := 4) (oi := ({ dst := some 67, op := .fieldAddr 50 (.tmp 66) 4, type := 0, pos := "ndfs.go:90", after := #[{ on := 3, ground := .data }], guard := none } : Oper)) (v := ?_) rfl (by kernel_rfl) (by kernel_rfl) (by kernel_rfl) (fun _ _ _ h => h) (Or.inl ⟨by rfl, ?_⟩) (by assumption) ?_
     case refine_2 => (intro w hSw; (try dsimp only at hSw); go_simp; try with_reducible rfl)
     try simp only [Act.put, zsA, zsZ, zsS]
     refine wpAnyH_take (i := 6) (oi := ({ dst := some 69, op := .fieldAddr 143 (.tmp 7) 0, type := 0, pos := "ndfs.go:90", after := #[], guard := none } : Oper)) (v := ?_) rfl (by kernel_rfl) (by kernel_rfl) (by kernel_rfl) (fun _ _ _ h => h) (Or.inl ⟨by rfl, ?_⟩) (by assumption) ?_
     case refine_2 => (intro w hSw; (try dsimp only at hSw); go_simp; try with_reducible rfl)
     try simp only [Act.put, zsA, zsZ, zsS]
     refine wpAnyH_take (i := 7) (oi := ({ dst := some 70, op := .load 82 (.tmp 69), type := 82, pos := "ndfs.go:90", after := #[{ on := 6, ground := .data }], guard := none } : Oper)) (v := ?_) rfl (by kernel_rfl) (by kernel_rfl) (by kernel_rfl) (fun _ _ _ h => h) (Or.inl ⟨by rfl, ?_⟩) (by assumption) ?_
     case refine_2 => (intro w hSw; (try dsimp only at hSw); go_simp; try with_reducible rfl)
     try simp only [Act.put, zsA, zsZ, zsS]
     refine wpAnyH_ready (rs := [5, 8]) (by kernel_rfl) (by simp) ?_
     refine AllReadyH.cons (o := ({ dst := some 68, op := .load 48 (.tmp 67), type := 48, pos := "ndfs.go:90", after := #[{ on := 4, ground := .data }], guard := none } : Oper)) rfl (fun K hK => ?_) (AllReadyH.cons (o := ({ dst := some 71, op := .buildSlice 48 1 #[(0, .tmp 70)], type := 48, pos := "ndfs.go:90", after := #[{ on := 7, ground := .data }], guard := none } : Oper)) rfl (fun K hK => ?_) AllReadyH.nil)
     ·go_simp
      clear hHeld
      refine hK.out _ _ (SXb.out _ (rbx.out.below (Below.refl _ _).drew)) (fun hHeld => ?_)
      clear hK K
      try simp only [Act.put, zsA, zsZ, zsS]
      refine wpAnyH_ready (rs := [8]) (by kernel_rfl) (by simp) ?_
      refine AllReadyH.cons (o := ({ dst := some 71, op := .buildSlice 48 1 #[(0, .tmp 70)], type := 48, pos := "ndfs.go:90", after := #[{ on := 7, ground := .data }], guard := none } : Oper)) rfl (fun K hK => ?_) AllReadyH.nil
      go_simp
      clear hHeld
      refine hK.out _ _ (SXb.out _ (rbx.out.below hAA.out)) (fun hHeld => ?_)
      clear hK K
      try simp only [Act.put, zsA, zsZ, zsS]
      refine wpAnyH_ready (rs := [9]) (by kernel_rfl) (by simp) ?_
      refine AllReadyH.cons (o := ({ dst := some 72, op := .call { callee := .builtin .append, args := #[.tmp 68, .tmp 71], argTypes := #[48, 48] }, type := 48, pos := "ndfs.go:90", after := #[{ on := 5, ground := .data }, { on := 8, ground := .data }], guard := none } : Oper)) rfl (fun K hK => ?_) AllReadyH.nil
      (refine step_appR ?_ (.tmp 68) (.tmp 71) 48 TPP (.agg #[.int .i64 0, .int .i64 0, .int .i64 0]) 3 24 ?_ Try.underlying48 infoQ rfl (by decide) w1.heap.size la nl lc (qcells loop) ?_ OW.out wB.heap.size 1 [.int .i64 xn, .int .i64 xs, .int .i64 xt] ?_ rfl nc.out oc.out n5.out y5.out hBA.out ?_; exact rfl; exact rfl; exact rfl; exact rfl; intro a' c' w7 ho7 hg7 hat7)
      obtain ⟨d7, f7, hs7, rb7, rb8, te7⟩ := T7.out a' c' w7 ho7 hg7 hat7
      have S7 := Lib.hid (SXb.out _ rb7)
      have S8 := Lib.hid (SXb.out _ rb8)
      replace te7 := Lib.hid te7
      clear rb7 rb8
      clear hHeld
      refine hK.out _ _ (S7.out) (fun hHeld => ?_)
      clear hK K
      try simp only [Act.put, zsA, zsZ, zsS]
      refine wpAnyH_take (i := 10) (oi := ({ dst := some 73, op := .nilCheck (.tmp 63), type := 0, pos := "ndfs.go:90", after := #[{ on := 0, ground := .data }, { on := 0, ground := .phase }, { on := 1, ground := .phase }, { on := 2, ground := .phase }, { on := 3, ground := .phase }, { on := 4, ground := .phase }, { on := 5, ground := .phase }, { on := 6, ground := .phase }, { on := 7, ground := .phase }, { on := 8, ground := .phase }, { on := 9, ground := .phase }], guard := none } : Oper)) (v := ?_) rfl (by kernel_rfl) (by kernel_rfl) (by kernel_rfl) (fun _ _ _ h => h) (Or.inl ⟨by rfl, ?_⟩) (by assumption) ?_
      case refine_2 => (intro w hSw; (try dsimp only at hSw); go_simp; try with_reducible rfl)
      try simp only [Act.put, zsA, zsZ, zsS]
      refine wpAnyH_take (i := 11) (oi := ({ dst := some 74, op := .fieldAddr 109 (.tmp 73) 2, type := 0, pos := "ndfs.go:90", after := #[{ on := 10, ground := .data }, { on := 0, ground := .phase }, { on := 1, ground := .phase }, { on := 2, ground := .phase }, { on := 3, ground := .phase }, { on := 4, ground := .phase }, { on := 5, ground := .phase }, { on := 6, ground := .phase }, { on := 7, ground := .phase }, { on := 8, ground := .phase }, { on := 9, ground := .phase }], guard := none } : Oper)) (v := ?_) rfl (by kernel_rfl) (by kernel_rfl) (by kernel_rfl) (fun _ _ _ h => h) (Or.inl ⟨by rfl, ?_⟩) (by assumption) ?_
      case refine_2 => (intro w hSw; (try dsimp only at hSw); go_simp; try with_reducible rfl)
      try simp only [Act.put, zsA, zsZ, zsS]
      refine wpAnyH_take (i := 12) (oi := ({ dst := some 75, op := .fieldAddr 50 (.tmp 74) 4, type := 0, pos := "ndfs.go:90", after := #[{ on := 11, ground := .data }, { on := 0, ground := .phase }, { on := 1, ground := .phase }, { on := 2, ground := .phase }, { on := 3, ground := .phase }, { on := 4, ground := .phase }, { on := 5, ground := .phase }, { on := 6, ground := .phase }, { on := 7, ground := .phase }, { on := 8, ground := .phase }, { on := 9, ground := .phase }], guard := none } : Oper)) (v := ?_) rfl (by kernel_rfl) (by kernel_rfl) (by kernel_rfl) (fun _ _ _ h => h) (Or.inl ⟨by rfl, ?_⟩) (by assumption) ?_
      case refine_2 => (intro w hSw; (try dsimp only at hSw); go_simp; try with_reducible rfl)
      try simp only [Act.put, zsA, zsZ, zsS]
      refine wpAnyH_ready (rs := [13]) (by kernel_rfl) (by simp) ?_
      refine AllReadyH.cons (o := ({ dst := none, op := .store 48 (.tmp 75) (.tmp 72), type := 0, pos := "ndfs.go:90", after := #[{ on := 12, ground := .data }, { on := 9, ground := .data }, { on := 9, ground := .chain }, { on := 0, ground := .phase }, { on := 1, ground := .phase }, { on := 2, ground := .phase }, { on := 3, ground := .phase }, { on := 4, ground := .phase }, { on := 5, ground := .phase }, { on := 6, ground := .phase }, { on := 7, ground := .phase }, { on := 8, ground := .phase }, { on := 9, ground := .phase }], guard := none } : Oper)) rfl (fun K hK => ?_) AllReadyH.nil
      go_simp
      clear hHeld
      refine hK.out _ _ (S8.out) (fun hHeld => ?_)
      clear hK K
      try simp only [Act.put, zsA, zsZ, zsS]
      refine wpAnyH_done (by kernel_rfl) ?_ _
      clear hHeld OW nc oc n5 y5 hBA T7 SXb hAA x0 x1 x2 d9 d7 f7 S7 S8 te tA rbx
      go_wp2
      go_roundw
      case rel => exact ⟨k + 1, sa, sc, a', c', by go_num, by omega, by rw [← h1l.out, ← hst.out]; exact te7⟩
      case measure => simp [intOf]; omega
     ·go_simp
      clear hHeld
      refine hK.out _ _ (SXb.out _ (rbx.out.below hAA.out)) (fun hHeld => ?_)
      clear hK K
      try simp only [Act.put, zsA, zsZ, zsS]
      refine wpAnyH_ready (rs := [5]) (by kernel_rfl) (by simp) ?_
      refine AllReadyH.cons (o := ({ dst := some 68, op := .load 48 (.tmp 67), type := 48, pos := "ndfs.go:90", after := #[{ on := 4, ground := .data }], guard := none } : Oper)) rfl (fun K hK => ?_) AllReadyH.nil
      go_simp
      clear hHeld
      refine hK.out _ _ (SXb.out _ (rbx.out.below hAA.out)) (fun hHeld => ?_)
      clear hK K
      try simp only [Act.put, zsA, zsZ, zsS]
      refine wpAnyH_ready (rs := [9]) (by kernel_rfl) (by simp) ?_
      refine AllReadyH.cons (o := ({ dst := some 72, op := .call { callee := .builtin .append, args := #[.tmp 68, .tmp 71], argTypes := #[48, 48] }, type := 48, pos := "ndfs.go:90", after := #[{ on := 5, ground := .data }, { on := 8, ground := .data }], guard := none } : Oper)) rfl (fun K hK => ?_) AllReadyH.nil
      (refine step_appR ?_ (.tmp 68) (.tmp 71) 48 TPP (.agg #[.int .i64 0, .int .i64 0, .int .i64 0]) 3 24 ?_ Try.underlying48 infoQ rfl (by decide) w1.heap.size la nl lc (qcells loop) ?_ OW.out wB.heap.size 1 [.int .i64 xn, .int .i64 xs, .int .i64 xt] ?_ rfl nc.out oc.out n5.out y5.out hBA.out ?_; exact rfl; exact rfl; exact rfl; exact rfl; intro a' c' w7 ho7 hg7 hat7)
      obtain ⟨d7, f7, hs7, rb7, rb8, te7⟩ := T7.out a' c' w7 ho7 hg7 hat7
      have S7 := Lib.hid (SXb.out _ rb7)
      have S8 := Lib.hid (SXb.out _ rb8)
      replace te7 := Lib.hid te7
      clear rb7 rb8
      clear hHeld
      refine hK.out _ _ (S7.out) (fun hHeld => ?_)
      clear hK K
      try simp only [Act.put, zsA, zsZ, zsS]
      refine wpAnyH_take (i := 10) (oi := ({ dst := some 73, op := .nilCheck (.tmp 63), type := 0, pos := "ndfs.go:90", after := #[{ on := 0, ground := .data }, { on := 0, ground := .phase }, { on := 1, ground := .phase }, { on := 2, ground := .phase }, { on := 3, ground := .phase }, { on := 4, ground := .phase }, { on := 5, ground := .phase }, { on := 6, ground := .phase }, { on := 7, ground := .phase }, { on := 8, ground := .phase }, { on := 9, ground := .phase }], guard := none } : Oper)) (v := ?_) rfl (by kernel_rfl) (by kernel_rfl) (by kernel_rfl) (fun _ _ _ h => h) (Or.inl ⟨by rfl, ?_⟩) (by assumption) ?_
      case refine_2 => (intro w hSw; (try dsimp only at hSw); go_simp; try with_reducible rfl)
      try simp only [Act.put, zsA, zsZ, zsS]
      refine wpAnyH_take (i := 11) (oi := ({ dst := some 74, op := .fieldAddr 109 (.tmp 73) 2, type := 0, pos := "ndfs.go:90", after := #[{ on := 10, ground := .data }, { on := 0, ground := .phase }, { on := 1, ground := .phase }, { on := 2, ground := .phase }, { on := 3, ground := .phase }, { on := 4, ground := .phase }, { on := 5, ground := .phase }, { on := 6, ground := .phase }, { on := 7, ground := .phase }, { on := 8, ground := .phase }, { on := 9, ground := .phase }], guard := none } : Oper)) (v := ?_) rfl (by kernel_rfl) (by kernel_rfl) (by kernel_rfl) (fun _ _ _ h => h) (Or.inl ⟨by rfl, ?_⟩) (by assumption) ?_
      case refine_2 => (intro w hSw; (try dsimp only at hSw); go_simp; try with_reducible rfl)
      try simp only [Act.put, zsA, zsZ, zsS]
      refine wpAnyH_take (i := 12) (oi := ({ dst := some 75, op := .fieldAddr 50 (.tmp 74) 4, type := 0, pos := "ndfs.go:90", after := #[{ on := 11, ground := .data }, { on := 0, ground := .phase }, { on := 1, ground := .phase }, { on := 2, ground := .phase }, { on := 3, ground := .phase }, { on := 4, ground := .phase }, { on := 5, ground := .phase }, { on := 6, ground := .phase }, { on := 7, ground := .phase }, { on := 8, ground := .phase }, { on := 9, ground := .phase }], guard := none } : Oper)) (v := ?_) rfl (by kernel_rfl) (by kernel_rfl) (by kernel_rfl) (fun _ _ _ h => h) (Or.inl ⟨by rfl, ?_⟩) (by assumption) ?_
      case refine_2 => (intro w hSw; (try dsimp only at hSw); go_simp; try with_reducible rfl)
      try simp only [Act.put, zsA, zsZ, zsS]
      refine wpAnyH_ready (rs := [13]) (by kernel_rfl) (by simp) ?_
      refine AllReadyH.cons (o := ({ dst := none, op := .store 48 (.tmp 75) (.tmp 72), type := 0, pos := "ndfs.go:90", after := #[{ on := 12, ground := .data }, { on := 9, ground := .data }, { on := 9, ground := .chain }, { on := 0, ground := .phase }, { on := 1, ground := .phase }, { on := 2, ground := .phase }, { on := 3, ground := .phase }, { on := 4, ground := .phase }, { on := 5, ground := .phase }, { on := 6, ground := .phase }, { on := 7, ground := .phase }, { on := 8, ground := .phase }, { on := 9, ground := .phase }], guard := none } : Oper)) rfl (fun K hK => ?_) AllReadyH.nil
      go_simp
      clear hHeld
      refine hK.out _ _ (S8.out) (fun hHeld => ?_)
      clear hK K
      try simp only [Act.put, zsA, zsZ, zsS]
      refine wpAnyH_done (by kernel_rfl) ?_ _
      clear hHeld OW nc oc n5 y5 hBA T7 SXb hAA x0 x1 x2 d9 d7 f7 S7 S8 te tA rbx
      go_wp2
      go_roundw
      case rel => exact ⟨k + 1, sa, sc, a', c', by go_num, by omega, by rw [← h1l.out, ← hst.out]; exact te7⟩
      case measure => simp [intOf]; omega
    ·obtain rfl : n1 = k := by omega
     rw [← lQ.out, List.take_length] at te
     have hw := h5.out.low
     have hs2 := h5.out.hs.1
     have hE : Hid (EndAt W sB ⟨2, 0, s.nodes, s.edges, s.depth, P.take i, P.drop i ++ Q⟩ wr) := by
      refine ⟨te.out.keep.below hw (fun j hj => by have := hw.size; rcases hj with e | e <;> omega), _, sa, sc, la, lc, te.out.row, hs2, ?_, ?_, ?_, ?_, ?_, ?_, ?_, ⟨PpsAt.of_own te.out.st, fun ad had => Nat.le_trans hw.size (OwnR.lt te.out.st (j := ad.block) (by rw [had]; rfl)).1⟩, ⟨PpsAt.of_own te.out.lo, fun ad had => Nat.le_trans hw.size (OwnR.lt te.out.lo (j := ad.block) (by rw [had]; rfl)).1⟩⟩
      all_goals (rw [hrv.out]; rfl)
     go_wp2
     refine bodyPost_end (results_none rfl _ _ _) rfl ?_
     exact ⟨rfl, hE.out⟩
end Go.Proofs.Ytfcpfcgcfaacnaa
