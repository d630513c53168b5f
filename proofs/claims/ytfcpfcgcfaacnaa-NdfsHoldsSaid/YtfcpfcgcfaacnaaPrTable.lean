/- The document's table of all pairs that there may be. Conditions: a small product that the document's New tells. -/
import Derived.Test.YtfcpfcgcfaacnaaPrWhole
import Derived.Deep.RegionHeld3
namespace Go.Proofs.Ytfcpfcgcfaacnaa
open Go.RowKit

/-- how many turns a place has -/
def turnsP (sets : List (List Bool)) (A : AU) : Nat := max (allS sets A) 1
def slotN (Q T n s t : Nat) : Nat := (n * Q + s) * T + t
def slotP (sets : List (List Bool)) (A : AU) (x : PP) : Nat := slotN A.nodes.length (turnsP sets A) x.node.toNat x.state.toNat x.turn.toNat
def tabN (G : GR) (sets : List (List Bool)) (A : AU) : Nat := G.edges.length * A.nodes.length * (allS sets A + 1)
theorem slot_inj {Q T n s t n' s' t' : Nat} (hs : s < Q) (hs' : s' < Q) (ht : t < T) (ht' : t' < T) (h : slotN Q T n s t = slotN Q T n' s' t') : n = n' ∧ s = s' ∧ t = t' := by
  unfold slotN at h
  have e1 : n * Q + s = n' * Q + s' := by
    have h1 : ((n * Q + s) * T + t) / T = n * Q + s := by rw [Nat.mul_comm _ T, Nat.mul_add_div (by omega), Nat.div_eq_of_lt ht, Nat.add_zero]
    have h2 : ((n' * Q + s') * T + t') / T = n' * Q + s' := by rw [Nat.mul_comm _ T, Nat.mul_add_div (by omega), Nat.div_eq_of_lt ht', Nat.add_zero]
    rw [← h1, ← h2, h]
  have e2 : t = t' := by rw [e1] at h; omega
  have e3 : n = n' := by
    have h1 : (n * Q + s) / Q = n := by rw [Nat.mul_comm _ Q, Nat.mul_add_div (by omega), Nat.div_eq_of_lt hs, Nat.add_zero]
    have h2 : (n' * Q + s') / Q = n' := by rw [Nat.mul_comm _ Q, Nat.mul_add_div (by omega), Nat.div_eq_of_lt hs', Nat.add_zero]
    rw [← h1, ← h2, e1]
  subst e3
  exact ⟨rfl, by omega, e2⟩
theorem slot_lt {Q T E n s t : Nat} (hn : n < E) (hs : s < Q) (ht : t < T) : slotN Q T n s t < E * Q * T := by
  unfold slotN
  have h1 : n * Q + s + 1 ≤ E * Q := by
    have : (n + 1) * Q ≤ E * Q := Nat.mul_le_mul_right _ hn
    rw [Nat.succ_mul] at this
    omega
  have h2 : (n * Q + s + 1) * T ≤ E * Q * T := Nat.mul_le_mul_right _ h1
  rw [Nat.succ_mul] at h2
  omega
theorem vPP_nat {G : GR} {sets : List (List Bool)} {A : AU} {x : PP} (h : vPP G sets A x) : ∃ n s t : Nat, x = ⟨n, s, t⟩ ∧ n < G.edges.length ∧ s < A.nodes.length ∧ t < turnsP sets A := by
  obtain ⟨⟨a, b⟩, ⟨c, d⟩, e, f⟩ := h
  refine ⟨x.node.toNat, x.state.toNat, x.turn.toNat, ?_, by omega, by omega, by unfold turnsP; omega⟩
  cases x
  simp only at a c e ⊢
  rw [Int.toNat_of_nonneg a, Int.toNat_of_nonneg c, Int.toNat_of_nonneg e]
theorem slotP_inj {G : GR} {sets : List (List Bool)} {A : AU} {x y : PP} (hx : vPP G sets A x) (hy : vPP G sets A y) (h : slotP sets A x = slotP sets A y) : x = y := by
  obtain ⟨n, s, t, rfl, h1, h2, h3⟩ := vPP_nat hx
  obtain ⟨n', s', t', rfl, h4, h5, h6⟩ := vPP_nat hy
  unfold slotP at h
  simp only [Int.toNat_natCast] at h
  obtain ⟨rfl, rfl, rfl⟩ := slot_inj h2 h5 h3 h6 h
  rfl
theorem slotP_lt {G : GR} {sets : List (List Bool)} {A : AU} {x : PP} (hx : vPP G sets A x) : slotP sets A x < tabN G sets A := by
  obtain ⟨n, s, t, rfl, h1, h2, h3⟩ := vPP_nat hx
  unfold slotP tabN
  simp only [Int.toNat_natCast]
  refine Nat.lt_of_lt_of_le (slot_lt h1 h2 h3) (Nat.mul_le_mul_left _ ?_)
  unfold turnsP
  omega
/-- a table that tells of each pair where it is -/
def TabOk (G : GR) (sets : List (List Bool)) (A : AU) (tab : List Int) (l : List PP) : Prop :=
  tab.length = tabN G sets A ∧ ∀ x, vPP G sets A x → tab.getD (slotP sets A x) 0 = if x ∈ l then (l.idxOf x : Int) + 1 else 0
theorem TabOk.start (G : GR) (sets : List (List Bool)) (A : AU) : TabOk G sets A (List.replicate (tabN G sets A) 0) [] := by
  refine ⟨by simp, fun x hx => ?_⟩
  have := slotP_lt hx
  simp [List.getD, this]
theorem TabOk.add {G : GR} {sets : List (List Bool)} {A : AU} {tab : List Int} {l : List PP} (h : TabOk G sets A tab l) (hl : ∀ y ∈ l, vPP G sets A y) {x : PP} (hx : vPP G sets A x) (hn : x ∉ l) : TabOk G sets A (tab.set (slotP sets A x) ((l.length : Int) + 1)) (l ++ [x]) := by
  have hlt := slotP_lt hx
  refine ⟨by rw [List.length_set]; exact h.1, fun y hy => ?_⟩
  by_cases e : y = x
  · subst e
    rw [List.getD_eq_getElem?_getD, List.getElem?_set_self (by rw [h.1]; exact hlt), if_pos (by simp), List.idxOf_append, if_neg hn]
    simp
  · have hne : slotP sets A x ≠ slotP sets A y := fun h => e (slotP_inj hy hx h.symm)
    rw [List.getD_eq_getElem?_getD, List.getElem?_set_ne hne, ← List.getD_eq_getElem?_getD, h.2 y hy]
    by_cases hm : y ∈ l
    · rw [if_pos hm, if_pos (by simp [hm]), List.idxOf_append, if_pos hm]
    · rw [if_neg hm, if_neg (by simp [hm, e])]
theorem tab_small {G : GR} {sets : List (List Bool)} {A : AU} (lt : Lt G sets A) (hc : chk A = 0) (hs : sets.length ≤ 16) : tabN G sets A ≤ 3168 ∧ allS sets A ≤ 32 ∧ turnsP sets A ≤ 32 := by
  have h1 := lt.e
  have h2 := lt.n
  obtain ⟨_, h4, _⟩ := chk_sets hc
  have h5 : allS sets A ≤ 32 := by unfold allS; omega
  refine ⟨?_, h5, by unfold turnsP; omega⟩
  unfold tabN
  exact Nat.mul_le_mul (Nat.mul_le_mul h1 h2) (show allS sets A + 1 ≤ 33 by omega)
theorem slot_wrap1 {n Q s t T : Nat} (h : n * Q ≤ 96 ∧ s ≤ 96 ∧ t ≤ 96 ∧ (n * Q + s) * T ≤ 6400) : wrap64 (wrap64 (wrap64 (wrap64 ((n : Int) * (Q : Int)) + (s : Int))) + (t : Int)) = ((slotN Q 1 n s t : Nat) : Int) := by
  unfold slotN
  rw [Nat.mul_one, ← Int.natCast_mul]
  generalize n * Q = P at h ⊢
  unfold wrap64
  omega
theorem slot_wrap2 {n Q s t T : Nat} (h : n * Q ≤ 96 ∧ s ≤ 96 ∧ t ≤ 96 ∧ (n * Q + s) * T ≤ 6400) : wrap64 (wrap64 (wrap64 (wrap64 ((n : Int) * (Q : Int)) + (s : Int)) * (T : Int)) + (t : Int)) = ((slotN Q T n s t : Nat) : Int) := by
  unfold slotN
  have e1 : wrap64 ((n : Int) * (Q : Int)) = ((n * Q : Nat) : Int) := by
    rw [← Int.natCast_mul]
    unfold wrap64
    omega
  rw [e1]
  generalize n * Q = P at h ⊢
  have e2 : wrap64 ((P : Int) + (s : Int)) = ((P + s : Nat) : Int) := by
    unfold wrap64
    omega
  rw [e2]
  generalize P + s = R at h ⊢
  have e3 : wrap64 ((R : Int) * (T : Int)) = ((R * T : Nat) : Int) := by
    rw [← Int.natCast_mul]
    unfold wrap64
    omega
  rw [e3]
  generalize R * T = S at h ⊢
  unfold wrap64
  omega
set_option maxHeartbeats 4000000 in
theorem rslot_any (w : World) (X : RX) (G : GR) (sets : List (List Bool)) (A : AU) (h : RpA w X G sets A) (x : PP) (hx : vPP G sets A x) :
    Calls Try.prog 57 #[rpv X G sets A, ppv x] w fun e w' => e = .returned (.int .i64 (slotP sets A x)) ∧ Below w.heap.size w w' := by
  obtain ⟨n, s, t, rfl, h1, h2, h3⟩ := vPP_nat hx
  have r1 := RowAt.new (w := w) (T := TRP) #[.slice X.ai G.init.length X.ci, .slice X.ae G.edges.length X.ce, .slice X.al G.labels.length X.cl, .slice X.as_ sets.length X.cs, .int .i64 A.sets, .slice X.bi A.init.length X.di, .slice X.bn A.nodes.length X.dn] rfl
  obtain ⟨w2, hw2⟩ : ∃ w2, w2 = (w.alloc (.cells #[.slice X.ai G.init.length X.ci, .slice X.ae G.edges.length X.ce, .slice X.al G.labels.length X.cl, .slice X.as_ sets.length X.cs, .int .i64 A.sets, .slice X.bi A.init.length X.di, .slice X.bn A.nodes.length X.dn] TRP)).alloc (.cells #[.int .i64 n, .int .i64 s, .int .i64 t] TRq) := ⟨_, rfl⟩
  have hb2 : Below w.heap.size w w2 := by rw [hw2]; exact balloc (balloc (Below.refl _ _) _) _
  have rp : RowAt w2 w.heap.size TRP (rpc X G sets A) := by rw [hw2]; exact r1.alloc _
  have rx : RowAt w2 (w.heap.size + 1) TRq [.int .i64 n, .int .i64 s, .int .i64 t] := by rw [hw2]; exact RowAt.new #[_, _, _] (by simp)
  have AL := Lib.hid (rall_any w2 X G sets A (h.below hb2))
  obtain ⟨_, h5, h6⟩ := tab_small h.lt h.chk (src_sets h.src).2.1
  have hE := h.lt.e
  have hQ := h.lt.n
  have hS : Hid (slotP sets A ⟨n, s, t⟩ = slotN A.nodes.length (turnsP sets A) n s t) := by show _ = _; unfold slotP; simp
  rw [hS.out]
  obtain ⟨Q, hQe⟩ : ∃ Q, Q = A.nodes.length := ⟨_, rfl⟩
  obtain ⟨T, hTe⟩ : ∃ T, T = turnsP sets A := ⟨_, rfl⟩
  obtain ⟨al, hal⟩ : ∃ T, T = allS sets A := ⟨_, rfl⟩
  rw [← hQe] at h2 hQ
  rw [← hTe] at h3 h6
  rw [← hal] at AL h5
  have hT2 : T = max al 1 := by rw [hTe, hal]; rfl
  have m1 : n * Q ≤ 12 * 8 := Nat.mul_le_mul (by omega) hQ
  have m2 : (n * Q + s) * T ≤ 200 * 32 := Nat.mul_le_mul (by omega) h6
  have c2 : w2.cell? ⟨w.heap.size, 4 + 2, none⟩ = some (.slice X.bn Q X.dn) := by rw [hQe]; exact rp.cell 6
  have x0 : w2.cell? ⟨w.heap.size + 1, 0, none⟩ = some (.int .i64 n) := rx.cell 0
  have k0 := rp.cell 0
  have k1 := rp.cell 1
  have k2 := rp.cell 2
  have k3 := rp.cell 3
  have k4 := rp.cell 4
  have k5 := rp.cell 5
  have k6 := rp.cell 6
  simp only [List.getElem?_cons_zero, List.getElem?_cons_succ] at k0 k1 k2 k3 k4 k5 k6
  rw [← hQe] at k6 ⊢
  rw [← hTe]
  have CC : Hid (∀ w', Below w2.heap.size w2 w' → w'.cell? ⟨w.heap.size, 6, none⟩ = some (.slice X.bn Q X.dn) ∧ w'.cell? ⟨w.heap.size + 1, 0, none⟩ = some (.int .i64 n) ∧ w'.cell? ⟨w.heap.size + 1, 1, none⟩ = some (.int .i64 s) ∧ w'.cell? ⟨w.heap.size + 1, 2, none⟩ = some (.int .i64 t)) := fun w' hb => ⟨bcell hb k6, bcell hb (rx.cell 0), bcell hb (rx.cell 1), bcell hb (rx.cell 2)⟩
  have HW := Lib.hid hw2
  replace hb2 := Lib.hid hb2
  replace hT2 := Lib.hid hT2
  have HB : Hid (n * Q ≤ 96 ∧ s ≤ 96 ∧ t ≤ 96 ∧ (n * Q + s) * T ≤ 6400) := ⟨m1, by omega, by omega, m2⟩
  have e1 : IntKind.i64.wrap ((n : Int) * (Q : Int)) = ((n * Q : Nat) : Int) := by rw [← Int.natCast_mul]; exact IntWalk.i64_in _ (by omega)
  have e2 : IntKind.i64.wrap (((n * Q : Nat) : Int) + (s : Int)) = ((n * Q + s : Nat) : Int) := by rw [← Int.natCast_add]; exact IntWalk.i64_in _ (by omega)
  have e3 : IntKind.i64.wrap (((n * Q + s : Nat) : Int) * (T : Int)) = (((n * Q + s) * T : Nat) : Int) := by rw [← Int.natCast_mul]; exact IntWalk.i64_in _ (by omega)
  have e4 : IntKind.i64.wrap ((((n * Q + s) * T : Nat) : Int) + (t : Int)) = (((n * Q + s) * T + t : Nat) : Int) := by rw [← Int.natCast_add]; exact IntWalk.i64_in _ (by omega)
  clear r1 rp rx hS hQe hTe hal hw2 hx h1 h2 h3 hE hQ m1 m2 h5 h6 c2 x0
  go_enter Try.func57, Try.ntmps57
  go_wp2_with fail
  rw [← HW.out]
  clear HW
  refine AL.out.mono ?_
  rintro e w3 ⟨rfl, hb3⟩
  obtain ⟨q6, y0, y1, y2⟩ := CC.out w3 hb3
  have hbz := Lib.hid (btrans hb2.out hb3)
  clear k0 k1 k2 k3 k4 k5 k6 hb3 AL
  by_cases h0 : al = 0
  · have hT : Hid (T = 1) := by show _ = _; rw [hT2.out, h0]; rfl
    subst h0
    clear e1 e2 e3 e4
    go_wp2
    go_ret
    rw [hT.out]
    exact ⟨ret_int (slot_wrap1 HB.out), hbz.out⟩
  · have hT : Hid (T = al) := by show _ = _; rw [hT2.out]; omega
    have h0' : ((al : Int) == 0) = false := by simpa using h0
    have hal0 : (0 : Int) < (al : Int) := by omega
    rw [hT.out] at HB
    clear e1 e2 e3 e4 h0
    go_wp2
    go_ret
    rw [hT.out]
    exact ⟨ret_int (slot_wrap2 HB.out), hbz.out⟩
def atP (l : List PP) (x : PP) : Int := if x ∈ l then (l.idxOf x : Int) else -1
set_option maxHeartbeats 4000000 in
theorem rat_any (w : World) (X : RX) (G : GR) (sets : List (List Bool)) (A : AU) (h : RpA w X G sets A) (x : PP) (hx : vPP G sets A x) (pb N : Nat) (tab : List Int) (l : List PP) (hr : RowAt w pb TyI (tab.map (.int .i64))) (ht : TabOk G sets A tab l) (hN : N = tabN G sets A) (hl : l.length ≤ 100000) (v : Value) :
    Calls Try.prog 58 #[rpv X G sets A, v, .slice (some ⟨pb, 0, none⟩) N N, ppv x] w fun e w' => e = .returned (.int .i64 (atP l x)) ∧ Below w.heap.size w w' := by
  have r1 := RowAt.new (w := w) (T := TRP) #[.slice X.ai G.init.length X.ci, .slice X.ae G.edges.length X.ce, .slice X.al G.labels.length X.cl, .slice X.as_ sets.length X.cs, .int .i64 A.sets, .slice X.bi A.init.length X.di, .slice X.bn A.nodes.length X.dn] rfl
  obtain ⟨w2, hw2⟩ : ∃ w2, w2 = (w.alloc (.cells #[.slice X.ai G.init.length X.ci, .slice X.ae G.edges.length X.ce, .slice X.al G.labels.length X.cl, .slice X.as_ sets.length X.cs, .int .i64 A.sets, .slice X.bi A.init.length X.di, .slice X.bn A.nodes.length X.dn] TRP)).alloc (.cells #[.int .i64 x.node, .int .i64 x.state, .int .i64 x.turn] TRq) := ⟨_, rfl⟩
  have hb2 : Below w.heap.size w w2 := by rw [hw2]; exact balloc (balloc (Below.refl _ _) _) _
  have rp : RowAt w2 w.heap.size TRP (rpc X G sets A) := by rw [hw2]; exact r1.alloc _
  have rx : RowAt w2 (w.heap.size + 1) TRq [.int .i64 x.node, .int .i64 x.state, .int .i64 x.turn] := by rw [hw2]; exact RowAt.new #[_, _, _] (by simp)
  have SL := Lib.hid (rslot_any w2 X G sets A (h.below hb2) x hx)
  have hlt := slotP_lt hx
  rw [← hN] at hlt
  have hN2 := (tab_small h.lt h.chk (src_sets h.src).2.1).1
  rw [← hN] at hN2
  have hV := ht.2 x hx
  obtain ⟨k, hk⟩ : ∃ k, k = slotP sets A x := ⟨_, rfl⟩
  rw [← hk] at SL hlt hV
  obtain ⟨V, hV2⟩ : ∃ V, V = tab.getD k 0 := ⟨_, rfl⟩
  have hVr : Hid (V - 1 = atP l x) := by
    show _ = _
    rw [hV2, hV]
    unfold atP
    split <;> omega
  have hVb : 0 ≤ V ∧ V ≤ 200000 := by
    rw [hV2, hV]
    split
    · have := List.idxOf_le_length (l := l) (a := x); omega
    · omega
  have cV : ∀ w', Below w2.heap.size w2 w' → w'.cell? ⟨pb, k, none⟩ = some (.int .i64 V) := fun w' hb => by
    refine bcell (btrans hb2 hb) ?_
    rw [hr.cell, hV2]
    have : k < tab.length := by rw [ht.1, ← hN]; exact hlt
    simp [List.getD, this]
  have k0 := rp.cell 0
  have k1 := rp.cell 1
  have k2 := rp.cell 2
  have k3 := rp.cell 3
  have k4 := rp.cell 4
  have k5 := rp.cell 5
  have k6 := rp.cell 6
  simp only [List.getElem?_cons_zero, List.getElem?_cons_succ] at k0 k1 k2 k3 k4 k5 k6
  have x0 : w2.cell? ⟨w.heap.size + 1, 0, none⟩ = some (.int .i64 x.node) := rx.cell 0
  have x1 : w2.cell? ⟨w.heap.size + 1, 1, none⟩ = some (.int .i64 x.state) := rx.cell 1
  have x2 : w2.cell? ⟨w.heap.size + 1, 2, none⟩ = some (.int .i64 x.turn) := rx.cell 2
  have HW := Lib.hid hw2
  replace hb2 := Lib.hid hb2
  replace cV := Lib.hid cV
  have hv0 := hVb.1
  have hv1 := hVb.2
  have hNi : 0 < (N : Int) := by omega
  have hki : (k : Int) < (N : Int) := by omega
  have hNb : (N : Int) ≤ 3168 := by omega
  clear r1 rp rx hw2 hx h hr ht hN hV hV2 hVb hk hl hN2
  go_enter Try.func58, Try.ntmps58
  go_wp2_with fail
  rw [← HW.out]
  clear HW
  refine SL.out.mono ?_
  rintro e w3 ⟨rfl, hb3⟩
  have q6 := cV.out w3 hb3
  have hbz := Lib.hid (btrans hb2.out hb3)
  clear k0 k1 k2 k3 k4 k5 k6 hb3 SL x0 x1 x2
  go_wp2
  go_ret
  exact ⟨ret_int hVr.out, hbz.out⟩
set_option maxHeartbeats 4000000 in
theorem rtable_any (w : World) (X : RX) (G : GR) (sets : List (List Bool)) (A : AU) (h : RpA w X G sets A) (N : Nat) (hN : N = tabN G sets A) :
    Calls Try.prog 56 #[rpv X G sets A] w fun e w' => ∃ pb, e = .returned (.slice (some ⟨pb, 0, none⟩) N N) ∧ RowAt w' pb TyI ((List.replicate N (0 : Int)).map (.int .i64)) ∧ w.heap.size ≤ pb ∧ Below w.heap.size w w' := by
  have r1 := RowAt.new (w := w) (T := TRP) #[.slice X.ai G.init.length X.ci, .slice X.ae G.edges.length X.ce, .slice X.al G.labels.length X.cl, .slice X.as_ sets.length X.cs, .int .i64 A.sets, .slice X.bi A.init.length X.di, .slice X.bn A.nodes.length X.dn] rfl
  obtain ⟨w2, hw2⟩ : ∃ w2, w2 = (w.alloc (.cells #[.slice X.ai G.init.length X.ci, .slice X.ae G.edges.length X.ce, .slice X.al G.labels.length X.cl, .slice X.as_ sets.length X.cs, .int .i64 A.sets, .slice X.bi A.init.length X.di, .slice X.bn A.nodes.length X.dn] TRP)) := ⟨_, rfl⟩
  have hb2 : Below w.heap.size w w2 := by rw [hw2]; exact balloc (Below.refl _ _) _
  have rp : RowAt w2 w.heap.size TRP (rpc X G sets A) := by rw [hw2]; exact r1
  have AL := Lib.hid (fun w' (hb : Below w2.heap.size w2 w') => rall_any w' X G sets A (h.below (btrans hb2 hb)))
  obtain ⟨h4, h5, h6⟩ := tab_small h.lt h.chk (src_sets h.src).2.1
  have hE := h.lt.e
  have hQ := h.lt.n
  obtain ⟨E, hEe⟩ : ∃ Q, Q = G.edges.length := ⟨_, rfl⟩
  obtain ⟨Q, hQe⟩ : ∃ Q, Q = A.nodes.length := ⟨_, rfl⟩
  obtain ⟨al, hal⟩ : ∃ T, T = allS sets A := ⟨_, rfl⟩
  rw [← hN] at h4
  have hN2 : N = E * Q * (al + 1) := by rw [hN, hEe, hQe, hal]; rfl
  rw [← hal] at AL h5
  rw [← hEe] at hE
  rw [← hQe] at hQ
  have m1 : E * Q ≤ 12 * 8 := Nat.mul_le_mul hE hQ
  have hk : ∀ w', Below w2.heap.size w2 w' → RowAt w' w.heap.size TRP [.slice X.ai G.init.length X.ci, .slice X.ae E X.ce, .slice X.al G.labels.length X.cl, .slice X.as_ sets.length X.cs, .int .i64 A.sets, .slice X.bi A.init.length X.di, .slice X.bn Q X.dn] := fun w' hb => by
    rw [hEe, hQe]
    exact rp.below hb
  have hS : Hid (∀ w', Below w2.heap.size w2 w' → w'.cell? ⟨w.heap.size, 0, none⟩ = some (.slice X.ai G.init.length X.ci) ∧ w'.cell? ⟨w.heap.size, 1, none⟩ = some (.slice X.ae E X.ce) ∧ w'.cell? ⟨w.heap.size, 2, none⟩ = some (.slice X.al G.labels.length X.cl) ∧ w'.cell? ⟨w.heap.size, 3, none⟩ = some (.slice X.as_ sets.length X.cs) ∧ w'.cell? ⟨w.heap.size, 4, none⟩ = some (.int .i64 A.sets) ∧ w'.cell? ⟨w.heap.size, 5, none⟩ = some (.slice X.bi A.init.length X.di) ∧ w'.cell? ⟨w.heap.size, 6, none⟩ = some (.slice X.bn Q X.dn)) := fun w' hb => ⟨(hk w' hb).cell 0, (hk w' hb).cell 1, (hk w' hb).cell 2, (hk w' hb).cell 3, (hk w' hb).cell 4, (hk w' hb).cell 5, (hk w' hb).cell 6⟩
  obtain ⟨k0, k1, k2, k3, k4, k5, k6⟩ := hS.out w2 (Below.refl _ _)
  have hw2' : w2 = (w.alloc (.cells #[.slice X.ai G.init.length X.ci, .slice X.ae E X.ce, .slice X.al G.labels.length X.cl, .slice X.as_ sets.length X.cs, .int .i64 A.sets, .slice X.bi A.init.length X.di, .slice X.bn Q X.dn] TRP)) := by rw [hEe, hQe]; exact hw2
  have eRP : rpv X G sets A = .agg #[.slice X.ai G.init.length X.ci, .slice X.ae E X.ce, .slice X.al G.labels.length X.cl, .slice X.as_ sets.length X.cs, .int .i64 A.sets, .slice X.bi A.init.length X.di, .slice X.bn Q X.dn] := by rw [hEe, hQe]
  rw [eRP] at AL ⊢
  have HW := Lib.hid hw2'
  replace hb2 := Lib.hid hb2
  have hN3 : Hid (IntKind.i64.wrap (IntKind.i64.wrap ((E : Int) * (Q : Int)) * IntKind.i64.wrap ((al : Int) + 1)) = (N : Int)) := by
    show _ = _
    have e1 : IntKind.i64.wrap ((E : Int) * (Q : Int)) = ((E * Q : Nat) : Int) := by rw [← Int.natCast_mul]; exact IntWalk.i64_in _ (by omega)
    have e2 : IntKind.i64.wrap ((al : Int) + 1) = ((al + 1 : Nat) : Int) := by rw [show (al : Int) + 1 = ((al + 1 : Nat) : Int) by push_cast; rfl]; exact IntWalk.i64_in _ (by omega)
    rw [e1, e2, ← Int.natCast_mul, ← hN2]
    exact IntWalk.i64_in _ (by omega)
  have hN8 : Hid (8 * N ≤ 281474976710656) := by show _ ≤ _; omega
  have hNb : (N : Int) ≤ 3168 := by omega
  have hal5 : (al : Int) ≤ 32 := by omega
  have hEi : (E : Int) ≤ 12 := by omega
  have hQi : (Q : Int) ≤ 8 := by omega
  clear r1 rp hw2 h hEe hQe hal hw2' eRP hk hN hN2 m1 hE hQ h4 h5 h6
  go_enter Try.func56, Try.ntmps56
  go_wp2_with fail
  rw [← HW.out]
  clear HW
  go_region_held3 (fun w' => w'.cell? ⟨w.heap.size, 0, none⟩ = some (.slice X.ai G.init.length X.ci) ∧ w'.cell? ⟨w.heap.size, 1, none⟩ = some (.slice X.ae E X.ce) ∧ w'.cell? ⟨w.heap.size, 2, none⟩ = some (.slice X.al G.labels.length X.cl) ∧ w'.cell? ⟨w.heap.size, 3, none⟩ = some (.slice X.as_ sets.length X.cs) ∧ w'.cell? ⟨w.heap.size, 4, none⟩ = some (.int .i64 A.sets) ∧ w'.cell? ⟨w.heap.size, 5, none⟩ = some (.slice X.bi A.init.length X.di) ∧ w'.cell? ⟨w.heap.size, 6, none⟩ = some (.slice X.bn Q X.dn)) (first | exact hS.out _ K1 | exact hS.out _ (Below.refl _ _) | exact hS.out _ (Below.refl _ _).drew) (first
    | (go_at_call 54; (with_reducible refine (AL.out _ (Below.refl _ _).drew).mono ?_); rintro e w3 ⟨rfl, hb3⟩; have K1 : Below w2.heap.size w2 w3 := ⟨hb3.os, hb3.tape, hb3.output, hb3.size, hb3.block⟩))
  rw [hN3.out]
  have hN0 : 0 ≤ (N : Int) := by omega
  have hbz := Lib.hid (btrans hb2.out K1)
  clear hS AL k0 k1 k2 k3 k4 k5 k6 K1 hb3 hN3
  go_wp2_with (at_make; refine wp_makeRow rfl _ _ _ TyI (.int .i64 0) 8 rfl Try.underlying22 infoI rfl N rfl rfl hN8.out (by decide) ?_)
  intro w4 hr4 hb4 hz4
  have hr5 : Hid (RowAt w4 w3.heap.size TyI ((List.replicate N (0 : Int)).map (.int .i64))) := by
    show RowAt _ _ _ _
    rw [List.map_replicate]
    exact hr4
  replace hb4 := Lib.hid (btrans hbz.out hb4)
  clear hr4
  go_wp2
  go_ret
  exact ⟨w3.heap.size, rfl, hr5.out, hbz.out.size, hb4.out⟩
end Go.Proofs.Ytfcpfcgcfaacnaa
