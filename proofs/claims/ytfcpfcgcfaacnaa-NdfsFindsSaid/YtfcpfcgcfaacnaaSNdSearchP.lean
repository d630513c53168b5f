/- The search whole, plain; the record when it is made. No conditions. -/
import Derived.Test.YtfcpfcgcfaacnaaSNdFrom2
namespace Go.Proofs.Ytfcpfcgcfaacnaa
open Go.RowKit
section
variable {b : NB} {nx : PP → List PP} {inq : PP → Bool} {p : PP → Prop} {C : Nat}
theorem comeP_none {s s1 : NS} {x : PP} (h : comeP b s x = (s1, none)) : ¬ b.n ≤ s.nodes ∧ ¬ b.d < s.ot.length + 1 ∧ s1 = pushS (reachS s x) x := by
 by_cases q1 : b.n ≤ s.nodes
 ·rw [comeP_n q1] at h; cases h
 ·by_cases q2 : b.d < s.ot.length + 1
  ·rw [comeP_d q1 q2] at h; cases h
  ·rw [comeP_ok q1 q2] at h
   injection h with h _
   exact ⟨q1, q2, h.symm⟩
theorem outerF_none (N : Nice nx p C) : ∀ (f : Nat) (s s1 : NS), NInv b nx p s → muO C s < f → outerF b nx inq f s = (s1, none) →
  NInv b nx p s1 ∧ s1.ot = [] ∧ s1.edges ≤ s.edges + f * (FI + 2) := by
 intro f
 induction f with
 | zero => intro s s1 _ hm _; omega
 | succ f ih =>
  intro s s1 h hm hr
  rw [Nat.succ_mul]
  cases ho : s.ot with
  | nil =>
   rw [outerF_nil ho] at hr
   injection hr with hr _
   subst hr
   exact ⟨h, ho, by omega⟩
  | cons xk r =>
   obtain ⟨x, k⟩ := xk
   cases hy : (nx x)[k]? with
   | some y =>
    have A := AdvO.of (inq := inq) N ho h hr hm hy
    have he : (atS (edgeS s) ((x, k + 1) :: r)).edges = s.edges + 1 := rfl
    by_cases q : y ∈ (atS (edgeS s) ((x, k + 1) :: r)).reached
    ·obtain ⟨a1, a2, a3⟩ := ih _ s1 A.inv A.mu (A.skip q)
     exact ⟨a1, a2, by omega⟩
    ·cases hc : comeP b (atS (edgeS s) ((x, k + 1) :: r)) y with
     | mk s2 e =>
      cases e with
      | some e => have := A.over _ _ q hc; cases this
      | none =>
       obtain ⟨q1, q2, q3, q4⟩ := A.come _ q hc
       obtain ⟨a1, a2, a3⟩ := ih _ s1 q3 q2 q1
       exact ⟨a1, a2, by omega⟩
   | none =>
    have A := AdvE.of (inq := inq) N ho h hr hm hy
    cases hi : inq x with
    | false =>
     obtain ⟨q1, q2, q3⟩ := A.pop hi
     obtain ⟨a1, a2, a3⟩ := ih _ s1 q3 q2 q1
     have he : (atS s r).edges = s.edges := rfl
     exact ⟨a1, a2, by omega⟩
    | true =>
     cases hc : innerF b nx FI s [(x, 0)] with
     | mk s2 e =>
      cases e with
      | some e => have := A.over _ _ hi hc; cases this
      | none =>
       obtain ⟨q1, q2, q3, q4, q5, q6⟩ := A.into _ hi hc
       obtain ⟨a1, a2, a3⟩ := ih _ s1 q3 q2 q1
       have he : (atS s2 r).edges = s2.edges := rfl
       exact ⟨a1, a2, by omega⟩
theorem fromF_done (N : Nice nx p C) (hC : C ≤ 3200) {s s1 : NS} {x : PP} (h : NInv b nx p s) (ho : s.ot = []) (hx : x ∉ s.reached) (hp : p x) (hr : fromF b nx inq s x = (s1, none)) : NInv b nx p s1 ∧ s1.ot = [] ∧ s1.edges ≤ s.edges + FO * (FI + 2) := by
 cases hc : comeP b s x with
 | mk s2 e =>
  cases e with
  | some e => rw [fromF_some hc] at hr; cases hr
  | none =>
   rw [fromF_none hc] at hr
   obtain ⟨q1, q2, rfl⟩ := comeP_none hc
   exact outerF_none N FO (pushS (reachS s x) x) s1 (h.come hx hp q1 q2) (muO_start C (reachS s x) x ho hC) hr
theorem searchF_nil {s : NS} : searchF b nx inq [] s = ⟨1, 0, s.nodes, s.edges, s.depth, [], []⟩ := rfl
theorem searchF_skip {s : NS} {x : PP} {l : List PP} (h : x ∈ s.reached) : searchF b nx inq (x :: l) s = searchF b nx inq l s := by
 rw [searchF, if_pos h]
theorem searchF_end {s s1 : NS} {x : PP} {l : List PP} {e : NF} (h : x ∉ s.reached) (hr : fromF b nx inq s x = (s1, some e)) : searchF b nx inq (x :: l) s = e := by
 rw [searchF, if_neg h]
 unfold fromF at hr
 cases hc : comeP b s x with
 | mk s2 e2 =>
  rw [hc] at hr
  cases e2 with
  | some e2 => injection hr with _ hr; injection hr
  | none =>
   simp only at hr ⊢
   rw [hr]
theorem searchF_go {s s1 : NS} {x : PP} {l : List PP} (h : x ∉ s.reached) (hr : fromF b nx inq s x = (s1, none)) : searchF b nx inq (x :: l) s = searchF b nx inq l s1 := by
 rw [searchF, if_neg h]
 unfold fromF at hr
 cases hc : comeP b s x with
 | mk s2 e2 =>
  rw [hc] at hr
  cases e2 with
  | some e2 => injection hr with _ hr; cases hr
  | none =>
   simp only at hr ⊢
   rw [hr]
end
def newX (n : Nat) : SX := ⟨none, 0, none, 0, n, 0, n + 1, n + 2⟩
theorem SrOk.made (W : World) (p : Nat) (b : NB) (nx : PP → List PP) (K : KP) (hK : ∀ a c S, K.f a c S) (hz : K.hi = 0) :
  SrOk W p (W.heap.size + 3) ⟨0, 0, W, K⟩ b nx startS [] startS.nodes ((((W.alloc (.map #[] 0)).alloc (.map #[] 0)).alloc (.map #[] 0)).alloc (.cells (srun p b startS (newX W.heap.size) 0 0).toArray TSr)) := by
 obtain ⟨w1, h1⟩ : ∃ w1, w1 = W.alloc (.map #[] 0) := ⟨_, rfl⟩
 obtain ⟨w2, h2⟩ : ∃ w2, w2 = w1.alloc (.map #[] 0) := ⟨_, rfl⟩
 obtain ⟨w3, h3⟩ : ∃ w3, w3 = w2.alloc (.map #[] 0) := ⟨_, rfl⟩
 obtain ⟨w4, h4⟩ : ∃ w4, w4 = w3.alloc (.cells (srun p b startS (newX W.heap.size) 0 0).toArray TSr) := ⟨_, rfl⟩
 have z1 : w1.heap.size = W.heap.size + 1 := by rw [h1]; simp
 have z2 : w2.heap.size = W.heap.size + 2 := by rw [h2]; simp [z1]
 have z3 : w3.heap.size = W.heap.size + 3 := by rw [h3]; simp [z2]
 have z4 : w4.heap.size = W.heap.size + 4 := by rw [h4]; simp [z3]
 have b1 : Below W.heap.size W w1 := by rw [h1]; exact balloc (Below.refl _ _) _
 have b2 : Below w1.heap.size w1 w2 := by rw [h2]; exact balloc (Below.refl _ _) _
 have b3 : Below w2.heap.size w2 w3 := by rw [h3]; exact balloc (Below.refl _ _) _
 have b4 : Below w3.heap.size w3 w4 := by rw [h4]; exact balloc (Below.refl _ _) _
 have m1 : PMap w1 W.heap.size 0 [] := by rw [h1]; exact PMap.made W
 have m2 : QMap w2 (W.heap.size + 1) [] := by rw [h2, ← z1]; exact QMap.made w1
 have m3 : QMap w3 (W.heap.size + 2) [] := by rw [h3, ← z2]; exact QMap.made w2
 have r4 : RowAt w4 (W.heap.size + 3) TSr (srun p b startS (newX W.heap.size) 0 0) := by rw [h4, ← z3]; exact RowAt.new _ rfl
 rw [← h1, ← h2, ← h3, ← h4]
 refine ⟨newX W.heap.size, [], [], rfl, rfl, ⟨Nat.le_refl _, hK _ _ _⟩, fun j => if j = W.heap.size then 3 else if j = W.heap.size + 1 then 4 else if j = W.heap.size + 2 then 5 else if j = W.heap.size + 3 then 0 else 6, ?_⟩
 refine ⟨btrans b1 (btrans b2 (btrans b3 b4)), fun _ => r4, ⟨by simp, by omega, by omega⟩, fun _ => ⟨OwnR.nil _ _ _ _, fun j hj => (by cases hj), fun e he => (by cases he)⟩, fun _ => ⟨OwnR.nil _ _ _ _, fun j hj => (by cases hj), fun e he => (by cases he)⟩, fun _ => ?_, ⟨by simp [newX], by simp [newX], by simp [newX]; omega⟩, fun _ => ?_, ⟨by simp [newX], by simp [newX], by simp [newX]; omega⟩, fun _ => ?_, ⟨by simp [newX], by simp [newX], by simp [newX]; omega⟩, fun _ j _ hj => absurd hj (Nat.not_lt_zero _), fun _ j _ hj => absurd hj (by show ¬ j < K.hi; omega)⟩
 ·exact m1.keep ((btrans b2 (btrans b3 b4)).block _ (by omega))
 ·exact m2.keep ((btrans b3 b4).block _ (by show W.heap.size + 1 < _; omega))
 ·exact m3.keep (b4.block _ (by show W.heap.size + 2 < _; omega))
theorem SrOk.first {W w : World} {p sB : Nat} {Z : Zn} {b : NB} {nx : PP → List PP} {s : NS} {st : List (PP × Nat)} {k : Nat} (h : SrOk W p sB Z b nx s st k w) {a : Option Addr} {l : List PP} (hp : PpsAt Z.kp.w a l) (hb : ∀ ad, a = some ad → Z.kp.lo ≤ ad.block ∧ ad.block < Z.kp.hi) : PpsAt w a l := by
 obtain ⟨X, S0, S1, _, _, _, h4⟩ := h
 exact hp.keepB (fun ad had => (h4.aside2 (hb ad had).1 (hb ad had).2).1)
theorem SrOk.reserve2 {W w w' : World} {p sB : Nat} {Z : Zn} {b : NB} {nx : PP → List PP} {s : NS} {st : List (PP × Nat)} {k : Nat} (h : SrOk W p sB Z b nx s st k w) (hb : Below w.heap.size w w') (f : Option Addr → Nat → List SpR → Prop) (hf : ∀ a c S, f a c S) : SrOk W p sB ⟨0, 0, W, ⟨f, w.heap.size, w'.heap.size, w'⟩⟩ b nx s st k w' := by
 obtain ⟨X, S0, S1, h1, h2, h3, h4⟩ := h
 exact ⟨X, S0, S1, h1, h2, ⟨h3.1, hf _ _ _⟩, h4.reserve2 hb f⟩
theorem SrOk.low {W w : World} {p sB : Nat} {Z : Zn} {b : NB} {nx : PP → List PP} {s : NS} {st : List (PP × Nat)} {k : Nat} (h : SrOk W p sB Z b nx s st k w) : Below W.heap.size W w := by
 obtain ⟨X, S0, S1, _, _, _, h4⟩ := h
 exact h4.low
theorem SrOk.cells {W w : World} {p sB : Nat} {Z : Zn} {b : NB} {nx : PP → List PP} {s : NS} {st : List (PP × Nat)} {k : Nat} (h : SrOk W p sB Z b nx s st k w) : ∃ mr, w.cell? ⟨sB, 13, none⟩ = some (.map (some mr)) ∧ ∀ x, okPP x → (Instr.lookup 105 (.map (some mr)) (.agg #[.int .i64 x.node, .int .i64 x.state, .int .i64 x.turn]) false).run Try.prog w.drew = .ok (.bool (decide (x ∈ s.reached))) w.drew := by
 obtain ⟨X, S0, S1, _, _, _, h4⟩ := h
 exact ⟨X.mr, h4.row.cell 13, fun x hx => (h4.below (Below.refl _ _).drew).mr.look hx⟩
theorem SrOk.found {W w : World} {p sB : Nat} {Z : Zn} {b : NB} {nx : PP → List PP} {s : NS} {st : List (PP × Nat)} {k : Nat} (h : SrOk W p sB Z b nx s st k w) : ∃ rv, RowAt w sB TSr rv ∧ W.heap.size ≤ sB ∧ rv[3]? = some (.int .i64 0) ∧ rv[4]? = some (.int .i64 0) ∧ rv[5]? = some (.int .i64 (s.nodes : Int)) ∧ rv[6]? = some (.int .i64 (s.edges : Int)) ∧ rv[7]? = some (.int .i64 (s.depth : Int)) ∧ rv[8]? = some (.slice none 0 0) ∧ rv[9]? = some (.slice none 0 0) := by
 obtain ⟨X, S0, S1, _, _, _, h4⟩ := h
 exact ⟨_, h4.row, h4.hs.1, rfl, rfl, rfl, rfl, rfl, rfl, rfl⟩
abbrev TFd : Nat := 50
def fcells (f : NF) (sa : Option Addr) (sc : Nat) (la : Option Addr) (lc : Nat) : List Value := [.int .i64 (f.kind : Int), .int .i64 (f.why : Int), .int .i64 (f.nodes : Int), .int .i64 (f.edges : Int), .int .i64 (f.depth : Int), .slice sa f.stem.length sc, .slice la f.loop.length lc]
def FoundAt (w : World) (v : Value) (f : NF) : Prop := ∃ sa sc la lc, v = .agg (fcells f sa sc la lc).toArray ∧ PpsAt w sa f.stem ∧ PpsAt w la f.loop
theorem FoundAt.below {w w' : World} {v : Value} {f : NF} (h : FoundAt w v f) (hb : Below w.heap.size w w') : FoundAt w' v f := by
 obtain ⟨sa, sc, la, lc, h1, h2, h3⟩ := h
 exact ⟨sa, sc, la, lc, h1, h2.below hb, h3.below hb⟩
def FoundNew (base : Nat) (w : World) (v : Value) (f : NF) : Prop := ∃ sa sc la lc, v = .agg (fcells f sa sc la lc).toArray ∧ (PpsAt w sa f.stem ∧ ∀ ad, sa = some ad → base ≤ ad.block) ∧ (PpsAt w la f.loop ∧ ∀ ad, la = some ad → base ≤ ad.block)
theorem FoundNew.at {base : Nat} {w : World} {v : Value} {f : NF} (h : FoundNew base w v f) : FoundAt w v f := by
 obtain ⟨sa, sc, la, lc, h1, h2, h3⟩ := h
 exact ⟨sa, sc, la, lc, h1, h2.1, h3.1⟩
theorem FoundNew.below {base : Nat} {w w' : World} {v : Value} {f : NF} (h : FoundNew base w v f) (hb : Below w.heap.size w w') : FoundNew base w' v f := by
 obtain ⟨sa, sc, la, lc, h1, h2, h3⟩ := h
 exact ⟨sa, sc, la, lc, h1, ⟨h2.1.below hb, h2.2⟩, ⟨h3.1.below hb, h3.2⟩⟩
theorem store7 {w : World} {g : Nat} {o0 o1 o2 o3 o4 o5 o6 : Value} (h : RowAt w g TFd [o0, o1, o2, o3, o4, o5, o6]) (v0 v1 v2 v3 v4 v5 v6 : Value) : RowAt (((((((w.setCell ⟨g, 0, none⟩ v0).setCell ⟨g, 1, none⟩ v1).setCell ⟨g, 2, none⟩ v2).setCell ⟨g, 3, none⟩ v3).setCell ⟨g, 4, none⟩ v4).setCell ⟨g, 5, none⟩ v5).setCell ⟨g, 6, none⟩ v6) g TFd [v0, v1, v2, v3, v4, v5, v6] :=
 ((((((h.set 0 v0).set 1 v1).set 2 v2).set 3 v3).set 4 v4).set 5 v5).set 6 v6
theorem keep7 (w : World) (g : Nat) (v0 v1 v2 v3 v4 v5 v6 : Value) : Keeps w (((((((w.setCell ⟨g, 0, none⟩ v0).setCell ⟨g, 1, none⟩ v1).setCell ⟨g, 2, none⟩ v2).setCell ⟨g, 3, none⟩ v3).setCell ⟨g, 4, none⟩ v4).setCell ⟨g, 5, none⟩ v5).setCell ⟨g, 6, none⟩ v6) (fun j => j = g) := by
 have K := fun (w : World) (i : Nat) (v : Value) => Keeps.set (S := fun j => j = g) w g i v rfl
 have T := fun {a b c : World} (h1 : Keeps a b (fun j => j = g)) (h2 : Keeps b c (fun j => j = g)) => h1.trans h2 (fun _ _ h => h)
 exact T (T (T (T (T (T (K _ _ _) (K _ _ _)) (K _ _ _)) (K _ _ _)) (K _ _ _)) (K _ _ _)) (K _ _ _)
theorem found_end {W0 w : World} {g : Nat} {rr : NF} {sa la : Option Addr} {sc lc : Nat} {o0 o1 o2 o3 o4 o5 o6 : Value} (h : RowAt w g TFd [o0, o1, o2, o3, o4, o5, o6]) (hb : Below W0.heap.size W0 w) (hg : W0.heap.size ≤ g) (p1 : PpsAt w sa rr.stem) (n1 : ∀ ad, sa = some ad → ad.block ≠ g) (p2 : PpsAt w la rr.loop) (n2 : ∀ ad, la = some ad → ad.block ≠ g) {w' : World} (hw : w' = ((((((w.setCell ⟨g, 0, none⟩ (.int .i64 (rr.kind : Int))).setCell ⟨g, 1, none⟩ (.int .i64 (rr.why : Int))).setCell ⟨g, 2, none⟩ (.int .i64 (rr.nodes : Int))).setCell ⟨g, 3, none⟩ (.int .i64 (rr.edges : Int))).setCell ⟨g, 4, none⟩ (.int .i64 (rr.depth : Int))).setCell ⟨g, 5, none⟩ (.slice sa rr.stem.length sc)).setCell ⟨g, 6, none⟩ (.slice la rr.loop.length lc)) :
  RowAt w' g TFd (fcells rr sa sc la lc) ∧ Below W0.heap.size W0 w' ∧ PpsAt w' sa rr.stem ∧ PpsAt w' la rr.loop := by
 subst hw
 have k := keep7 w g (.int .i64 (rr.kind : Int)) (.int .i64 (rr.why : Int)) (.int .i64 (rr.nodes : Int)) (.int .i64 (rr.edges : Int)) (.int .i64 (rr.depth : Int)) (.slice sa rr.stem.length sc) (.slice la rr.loop.length lc)
 exact ⟨store7 h _ _ _ _ _ _ _, k.below hb (fun j e => by omega), p1.keeps k n1, p2.keeps k n2⟩
end Go.Proofs.Ytfcpfcgcfaacnaa
