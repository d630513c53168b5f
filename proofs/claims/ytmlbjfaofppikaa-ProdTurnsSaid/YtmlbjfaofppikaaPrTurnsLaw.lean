/- The walk of 'ProdTurns'. No conditions but the form's reach. -/
import Derived.Test.YtmlbjfaofppikaaPrWholeLaw
import Derived.Test.YtmlbjfaofppikaaPrWholeB
namespace Go.Proofs.Ytmlbjfaofppikaa

/-- of each pair of the whole product is told whether it is In -/
theorem wholeL_ins {G : GR} {sets : List (List Bool)} {A : AU} {most : Int} : ∀ (f i : Nat) (s s' : WR), i ≤ s.l.length → s.ins.length = i → (∀ k (hk : k < s.l.length), k < i → s.ins[k]? = some (inP G sets A s.l[k])) → wholeL G sets A most f i s = some s' →
    ∀ k (hk : k < s'.l.length), s'.ins[k]? = some (inP G sets A s'.l[k])
  | 0, _, _, _, _, _, _, h => by simp [wholeL] at h
  | f + 1, i, s, s', hi, h1, h2, h => by
    by_cases hl : i < s.l.length
    · by_cases hm : most < (s.l.length : Int)
      · rw [wholeL_more hl hm] at h
        cases h
      · rw [wholeL_step hl hm] at h
        have hr := rowQ_len G sets A s.l[i] s.l (nextP G sets A s.l[i])
        refine wholeL_ins f (i + 1) (stepW G sets A s.l[i] s) s' (by show i + 1 ≤ (rowQ G sets A s.l[i] s.l (nextP G sets A s.l[i])).1.length; omega) (by simp [stepW, h1]) (fun k hk hki => ?_) h
        have hks : k < s.l.length := by omega
        have hold := rowQ_old G sets A s.l[i] s.l (nextP G sets A s.l[i]) hks
        have hk' : k < (rowQ G sets A s.l[i] s.l (nextP G sets A s.l[i])).1.length := hk
        have e : (stepW G sets A s.l[i] s).l[k]'hk = s.l[k] := by
          show (rowQ G sets A s.l[i] s.l (nextP G sets A s.l[i])).1[k] = _
          rw [List.getElem?_eq_getElem hk'] at hold
          exact Option.some.inj hold
        refine Eq.trans ?_ (congrArg (fun z => some (inP G sets A z)) e).symm
        show (s.ins ++ [inP G sets A s.l[i]])[k]? = some (inP G sets A s.l[k])
        by_cases hk2 : k < i
        · rw [List.getElem?_append_left (by omega)]
          exact h2 k hks hk2
        · obtain rfl : k = i := by omega
          rw [List.getElem?_append_right (by omega), h1]
          simp
    · rw [wholeL_end hl] at h
      cases h
      exact fun k hk => h2 k hk (by omega)
/-- an error, or a product -/
theorem wholeP_ok {G : GR} {sets : List (List Bool)} {A : AU} (lt : Lt G sets A) {m : Int} (h : (wholeP G sets A m).1 = 0) : newB G sets A = true ∧ (wholeP G sets A m).2.2.ins.length = (wholeP G sets A m).2.2.l.length ∧ ∀ k (hk : k < (wholeP G sets A m).2.2.l.length), (wholeP G sets A m).2.2.ins[k]? = some (inP G sets A (wholeP G sets A m).2.2.l[k]) := by
  unfold wholeP at h ⊢
  by_cases hn : newB G sets A = true
  · rw [if_pos hn] at h ⊢
    by_cases hm : m < 0
    · rw [if_pos hm] at h
      cases h
    · rw [if_neg hm] at h ⊢
      cases hw : wholeL G sets A (most' m) 65540 0 ⟨firstP G A, [], [], []⟩ with
      | none => rw [hw] at h; cases h
      | some s =>
        have h1 := wholeL_len lt 65540 0 ⟨firstP G A, [], [], []⟩ s (Nat.zero_le _) rfl rfl rfl (by simp) hw
        exact ⟨hn, h1.2.2.1, wholeL_ins 65540 0 ⟨firstP G A, [], [], []⟩ s (Nat.zero_le _) rfl (fun k hk hki => by omega) hw⟩
  · rw [if_neg hn] at h
    cases h
theorem pairsP_turn {A : AU} {lab : Nat} {node turn : Int} : ∀ {states : List Int} {out : List PP}, (∀ y ∈ out, y.turn = turn) → ∀ y ∈ pairsP A lab node turn out states, y.turn = turn :=
  fun h => pairsP_all A _ _ _ _ _ h (fun _ _ => rfl)
theorem next_turn {G : GR} {sets : List (List Bool)} {A : AU} {x : PP} : ∀ y ∈ nextP G sets A x, isP sets A x = true ∧ y.turn = turnP G sets A x := by
  unfold nextP
  by_cases hx : isP sets A x = true
  · rw [if_pos hx]
    have key : ∀ (es : List PR) (out : List PP), (∀ y ∈ out, y.turn = turnP G sets A x) → ∀ y ∈ es.foldl (fun out e => pairsP A (labP G e.1) e.1 (turnP G sets A x) out (nodeP A x.state).to) out, y.turn = turnP G sets A x := by
      intro es
      induction es with
      | nil => intro out h; exact h
      | cons e es ih => intro out h; rw [List.foldl_cons]; exact ih _ (pairsP_turn h)
    exact fun y hy => ⟨hx, key _ [] (by simp) y hy⟩
  · rw [if_neg hx]
    simp
theorem turn_zero {sets : List (List Bool)} {A : AU} {x : PP} (h : isP sets A x = true) (h0 : allS sets A = 0) : x.turn = 0 := by
  obtain ⟨k, t, _, h2, _, h4⟩ := isP_range h
  rw [h0] at h4
  omega
/-- what holds of the turn behind a pair -/
theorem turn_next {G : GR} {sets : List (List Bool)} {A : AU} {x : PP} (h : isP sets A x = true) : (allS sets A = 0 → turnP G sets A x = 0) ∧ (turnP G sets A x = x.turn ∨ (0 < allS sets A ∧ turnP G sets A x = (x.turn + 1) % (allS sets A : Int))) := by
  unfold turnP
  by_cases hc : 0 < allS sets A ∧ ofP G sets A x = true
  · rw [if_pos hc]
    exact ⟨fun e => by omega, .inr ⟨hc.1, rfl⟩⟩
  · rw [if_neg hc]
    exact ⟨fun e => turn_zero h e, .inl rfl⟩
theorem in_turn {G : GR} {sets : List (List Bool)} {A : AU} {x : PP} (h : inP G sets A x = true) : x.turn = 0 := by
  unfold inP at h
  rw [Bool.and_eq_true, Bool.or_eq_true, Bool.and_eq_true, decide_eq_true_eq, decide_eq_true_eq] at h
  obtain ⟨h1, h2 | h2⟩ := h
  · exact turn_zero h1 h2
  · exact h2.1
end Go.Proofs.Ytmlbjfaofppikaa

namespace Go.Proofs.Ytmlbjfaofppikaa
open Go.RowKit

set_option maxRecDepth 20000 in
set_option maxHeartbeats 8000000 in
theorem turns_dark (W : World) (X : RX) (G : GR) (sets : List (List Bool)) (A : AU) (h : LawIn W X G sets A) (hl : lightB G sets A = false) :
    Calls Try.prog 7 #[.agg (gcells X G).toArray, .slice X.as_ sets.length X.cs, .agg (acells X A).toArray] W fun e w' => e = .returned (.bool true) ∧ Below W.heap.size W w' := by
  obtain ⟨ai, ae, al, as_, bi, bn, ci, ce, cl, cs, di, dn⟩ := X
  have B0 := Box2.start W ⟨ai, ae, al, as_, bi, bn, ci, ce, cl, cs, di, dn⟩ G A
  have LI : Hid (∀ w, Below W.heap.size W w → Calls Try.prog 8 #[.agg #[.slice ai G.init.length ci, .slice ae G.edges.length ce, .slice al G.labels.length cl], .slice as_ sets.length cs, .agg #[.int .i64 A.sets, .slice bi A.init.length di, .slice bn A.nodes.length dn]] w fun e w' => e = .returned (.bool false) ∧ Below w.heap.size w w') := fun w hb => by
    rw [← hl]
    exact light_any w ⟨ai, ae, al, as_, bi, bn, ci, ce, cl, cs, di, dn⟩ G sets A (h.g.below hb) (h.au.below hb)
  have hb0 := Lib.hid B0.below
  clear h hl B0
  go_enter Try.func7, Try.ntmps7
  go_wp2_with fail
  refine (LI.out _ hb0.out).mono ?_
  rintro e w4 ⟨rfl, hb4⟩
  go_wp2_with fail
  refine (awake_true _).mono ?_
  rintro e w5 ⟨rfl, hb5⟩
  go_wp2
  go_ret
  exact ⟨rfl, btrans (btrans hb0.out hb4) hb5⟩
/-- the object that New made, or none -/
theorem NewMade.pa {G : GR} {sets : List (List Bool)} {A : AU} {w w' : World} {e : Ending} (h : NewMade G sets A w e w') : ∃ pa : Option Addr, e = .returned (.pointer pa) ∧ (newB G sets A = true → ∃ p, pa = some ⟨p, 0, none⟩ ∧ PrAt w' p G sets A) ∧ Below w.heap.size w w' := by
  obtain ⟨hb, ⟨_, p, h1, h2⟩ | ⟨h1, h2⟩⟩ := h
  · exact ⟨_, h1, fun _ => ⟨p, rfl, h2⟩, hb⟩
  · exact ⟨_, h2, fun hn => (by rw [h1] at hn; cases hn), hb⟩
set_option maxRecDepth 20000 in
set_option maxHeartbeats 16000000 in
theorem turns_light (W : World) (X : RX) (G : GR) (sets : List (List Bool)) (A : AU) (h : LawIn W X G sets A) (hl : lightB G sets A = true) :
    Calls Try.prog 7 #[.agg (gcells X G).toArray, .slice X.as_ sets.length X.cs, .agg (acells X A).toArray] W fun e w' => e = .returned (.bool true) ∧ Below W.heap.size W w' := by
  have lt := lightB_lt hl
  obtain ⟨z1, z2, z3, z4, z5, z6⟩ := wholeP_len lt 300
  have hok := wholeP_ok (G := G) (sets := sets) (A := A) lt (m := 300)
  obtain ⟨ai, ae, al, as_, bi, bn, ci, ce, cl, cs, di, dn⟩ := X
  have LI : Hid (∀ w, Below W.heap.size W w → Calls Try.prog 8 #[.agg #[.slice ai G.init.length ci, .slice ae G.edges.length ce, .slice al G.labels.length cl], .slice as_ sets.length cs, .agg #[.int .i64 A.sets, .slice bi A.init.length di, .slice bn A.nodes.length dn]] w fun e w' => e = .returned (.bool true) ∧ Below w.heap.size w w') := fun w hb => by
    rw [← hl]
    exact light_any w ⟨ai, ae, al, as_, bi, bn, ci, ce, cl, cs, di, dn⟩ G sets A (h.g.below hb) (h.au.below hb)
  have GR_ : Hid (∀ w, Below W.heap.size W w → Calls Try.prog 10 #[.agg #[.slice ai G.init.length ci, .slice ae G.edges.length ce, .slice al G.labels.length cl], .slice as_ sets.length cs] w (SrcMade G sets w)) := fun w hb => graph_any w ai ae al as_ ci ce cl cs G sets (h.g.below hb) h.ok (h.s.below hb)
  have NV : Hid (∀ w, Below W.heap.size W w → ∀ v, SrcV w G sets v → Calls Try.prog 13 #[v, .agg #[.int .i64 A.sets, .slice bi A.init.length di, .slice bn A.nodes.length dn]] w (NewMade G sets A w)) := fun w hb v hv => new_v w bi bn di dn G sets A v hv h.ok (h.au.below hb) h.aok
  obtain ⟨⟨err, init, s⟩, hP⟩ : ∃ P, P = wholeP G sets A 300 := ⟨_, rfl⟩
  have WH : Hid (∀ w, Below W.heap.size W w → ∀ v, SrcV w G sets v → Calls Try.prog 23 #[v, .agg #[.int .i64 A.sets, .slice bi A.init.length di, .slice bn A.nodes.length dn], .int .i64 300] w (Whole4 err init s w)) := fun w hb v hv => by
    have := whole_any w bi bn di dn G sets A 300 v hv h.ok (h.au.below hb) h.aok lt
    rw [← hP] at this
    exact this
  rw [← hP] at z1 z2 z3 z4 z5 z6 hok
  simp only at z1 z2 z3 z4 z5 z6 hok
  obtain ⟨ni, hni⟩ : ∃ n, n = init.length := ⟨_, rfl⟩
  obtain ⟨ne, hne⟩ : ∃ n, n = s.es.length := ⟨_, rfl⟩
  obtain ⟨nl, hnl⟩ : ∃ n, n = s.labs.length := ⟨_, rfl⟩
  obtain ⟨nq, hnq⟩ : ∃ n, n = s.l.length := ⟨_, rfl⟩
  obtain ⟨nb, hnb⟩ : ∃ n, n = s.ins.length := ⟨_, rfl⟩
  have i4 : (nb : Int) ≤ 1000000 := by omega
  have i5 : (nq : Int) ≤ 1000000 := by omega
  have B2 : Hid (Box2 W ⟨ai, ae, al, as_, bi, bn, ci, ce, cl, cs, di, dn⟩ G A ((W.alloc (.cells #[.slice ai G.init.length ci, .slice ae G.edges.length ce, .slice al G.labels.length cl] TG)).alloc (.cells #[.int .i64 A.sets, .slice bi A.init.length di, .slice bn A.nodes.length dn] TA))) := Box2.start W ⟨ai, ae, al, as_, bi, bn, ci, ce, cl, cs, di, dn⟩ G A
  have CB : Hid (∀ w, Box2 W ⟨ai, ae, al, as_, bi, bn, ci, ce, cl, cs, di, dn⟩ G A w → w.cell? ⟨W.heap.size, 0, none⟩ = some (.slice ai G.init.length ci) ∧ w.cell? ⟨W.heap.size, 1, none⟩ = some (.slice ae G.edges.length ce) ∧ w.cell? ⟨W.heap.size, 2, none⟩ = some (.slice al G.labels.length cl) ∧ w.cell? ⟨W.heap.size + 1, 0, none⟩ = some (.int .i64 A.sets) ∧ w.cell? ⟨W.heap.size + 1, 1, none⟩ = some (.slice bi A.init.length di) ∧ w.cell? ⟨W.heap.size + 1, 2, none⟩ = some (.slice bn A.nodes.length dn)) := fun w hB => ⟨hB.rg.cell 0, hB.rg.cell 1, hB.rg.cell 2, hB.ra.cell 0, hB.ra.cell 1, hB.ra.cell 2⟩
  have XX : Hid (∀ w e w', Whole4 err init s w e w' → ∃ Y : WX, e = .returned (.tuple #[.agg #[.slice Y.ia ni Y.ic, .slice Y.ea ne Y.ec, .slice Y.la nl Y.lc], .slice Y.qa nq Y.qc, .slice Y.ba nb Y.bc, .int .i64 err]) ∧ ReadsB w.heap.size w' Y init s ∧ Below w.heap.size w w') := fun w e w' h => by
    rw [hni, hne, hnl, hnq, hnb]
    exact h.x
  replace hni := Lib.hid hni
  replace hne := Lib.hid hne
  replace hnl := Lib.hid hnl
  replace hnq := Lib.hid hnq
  replace hnb := Lib.hid hnb
  replace hP := Lib.hid hP
  replace hok := Lib.hid hok
  replace lt := Lib.hid lt
  clear h hl z1 z2 z3 z4 z5 z6
  go_enter Try.func7, Try.ntmps7
  go_wp2_with fail
  generalize ((W.alloc (.cells #[.slice ai G.init.length ci, .slice ae G.edges.length ce, .slice al G.labels.length cl] TG)).alloc (.cells #[.int .i64 A.sets, .slice bi A.init.length di, .slice bn A.nodes.length dn] TA)) = w2 at B2 ⊢
  refine (LI.out _ B2.out.below).mono ?_
  rintro e w1 ⟨rfl, hb1⟩
  have B1 := Lib.hid (B2.out.next hb1)
  clear hb1 LI B2
  obtain ⟨g0, g1, g2, a0, a1, a2⟩ := CB.out w1 B1.out
  go_wp2
  go_region_held3 (fun w' => w'.cell? ⟨W.heap.size, 0, none⟩ = some (.slice ai G.init.length ci) ∧ w'.cell? ⟨W.heap.size, 1, none⟩ = some (.slice ae G.edges.length ce) ∧ w'.cell? ⟨W.heap.size, 2, none⟩ = some (.slice al G.labels.length cl) ∧ w'.cell? ⟨W.heap.size + 1, 0, none⟩ = some (.int .i64 A.sets) ∧ w'.cell? ⟨W.heap.size + 1, 1, none⟩ = some (.slice bi A.init.length di) ∧ w'.cell? ⟨W.heap.size + 1, 2, none⟩ = some (.slice bn A.nodes.length dn)) (first | exact CB.out _ (B1.out.next K2) | exact CB.out _ (B1.out.next K1) | exact CB.out _ B1.out | exact CB.out _ (B1.out.next (Below.refl _ _).drew)) (first
    | (go_at_call 13; (with_reducible refine (NV.out _ (btrans B1.out.below K1) v hsv.out).mono ?_); rintro e w5 h5; replace h5 := Lib.hid h5; obtain ⟨pa, rfl, hpa, hb5⟩ := h5.out.pa; have K2 : Below w1.heap.size w1 w5 := btrans K1 hb5)
    | (go_at_call 10; (with_reducible refine (GR_.out _ B1.out.below.drew).mono ?_); rintro e w4 h4; have hb4 := h4.1; replace h4 := Lib.hid h4; obtain ⟨v, rfl, hsv⟩ := h4.out.v; replace hsv := Lib.hid hsv; have K1 : Below w1.heap.size w1 w4 := ⟨hb4.os, hb4.tape, hb4.output, hb4.size, hb4.block⟩))
  have B3 := Lib.hid (B1.out.next K2)
  have hpw := Lib.hid hpa
  clear g0 g1 g2 a0 a1 a2 B1 K1 K2 hpa hsv hb5 hb4 h4 h5
  obtain ⟨w3, hw3⟩ : ∃ x, x = w5 := ⟨_, rfl⟩
  subst hw3
  obtain ⟨g0, g1, g2, a0, a1, a2⟩ := CB.out w3 B3.out
  have h1l : W.heap.size < w3.heap.size := B3.out.rg.lt
  have h2l : W.heap.size + 1 < w3.heap.size := B3.out.ra.lt
  have hZ : Hid (∀ (w w' : World), Below (w.alloc gzc).heap.size (w.alloc gzc) w' → RowAt w' w.heap.size TG gz) := fun w w' hb => (RowAt.new #[_, _, _] rfl).below hb
  go_upto_region 4 with (fail)
  go_cut [8, 9, 10, 11] (fun gv_ qv bv ev wx => ∃ (z : Nat) (Y : WX), gv_ = .pointer (some ⟨z, 0, none⟩) ∧ qv = .slice Y.qa nq Y.qc ∧ bv = .slice Y.ba nb Y.bc ∧ ev = .int .i64 err ∧ Hid (RowAt wx z TG [.slice Y.ia ni Y.ic, .slice Y.ea ne Y.ec, .slice Y.la nl Y.lc]) ∧ Hid (ReadsB w3.heap.size wx Y init s) ∧ Hid (Below w3.heap.size w3 wx))
  case first =>
    go_region_held3 (fun w' => w'.cell? ⟨W.heap.size, 0, none⟩ = some (.slice ai G.init.length ci) ∧ w'.cell? ⟨W.heap.size, 1, none⟩ = some (.slice ae G.edges.length ce) ∧ w'.cell? ⟨W.heap.size, 2, none⟩ = some (.slice al G.labels.length cl) ∧ w'.cell? ⟨W.heap.size + 1, 0, none⟩ = some (.int .i64 A.sets) ∧ w'.cell? ⟨W.heap.size + 1, 1, none⟩ = some (.slice bi A.init.length di) ∧ w'.cell? ⟨W.heap.size + 1, 2, none⟩ = some (.slice bn A.nodes.length dn)) (first | exact CB.out _ (B3.out.next (set3_below (btrans K1 hb5) K1.size)) | exact CB.out _ (B3.out.next (set3_below (btrans K1 hb5) (Nat.le_refl _))) | exact CB.out _ (B3.out.next (set3_below (btrans KA hb5) K1.size)) | exact CB.out _ (B3.out.next (balloc (btrans K1 hb5) _)) | exact CB.out _ (B3.out.next (btrans K1 hb5)) | exact CB.out _ (B3.out.next (btrans KA hb5)) | exact CB.out _ (B3.out.next (balloc K1 _)) | exact CB.out _ (B3.out.next K1) | exact CB.out _ (B3.out.next (balloc (Below.refl _ _) _).drew) | exact CB.out _ B3.out | exact CB.out _ (B3.out.next (Below.refl _ _).drew)) (first
      | (go_at_call 23; (with_reducible refine (WH.out _ (btrans B3.out.below KA) v (hsv.out.below (balloc (Below.refl _ _) _))).mono ?_); rintro e w5 h5; replace h5 := Lib.hid h5; obtain ⟨Y, rfl, hr5, hb5⟩ := XX.out _ _ _ h5.out; have rz := hZ.out w4 w5 hb5; have z0 : w5.cell? ⟨w4.heap.size, 0, none⟩ = some (.slice none 0 0) := rz.cell 0; have z1 : w5.cell? ⟨w4.heap.size, 1, none⟩ = some (.slice none 0 0) := rz.cell 1; have z2 : w5.cell? ⟨w4.heap.size, 2, none⟩ = some (.slice none 0 0) := rz.cell 2; have fz0 : w5.frozen? ⟨w4.heap.size, 0, none⟩ = false := rz.free 0; have fz1 : w5.frozen? ⟨w4.heap.size, 1, none⟩ = false := rz.free 1; have fz2 : w5.frozen? ⟨w4.heap.size, 2, none⟩ = false := rz.free 2; replace rz := Lib.hid rz)
      | (go_at_call 23; have tok := KZ; (with_reducible refine (WH.out _ (btrans B3.out.below K1) v hsv.out).mono ?_); rintro e w5 h5; replace h5 := Lib.hid h5; obtain ⟨Y, rfl, hr5, hb5⟩ := XX.out _ _ _ h5.out; have rz := (hZ.out w3 w4 KZ).below hb5; have z0 : w5.cell? ⟨w3.heap.size, 0, none⟩ = some (.slice none 0 0) := rz.cell 0; have z1 : w5.cell? ⟨w3.heap.size, 1, none⟩ = some (.slice none 0 0) := rz.cell 1; have z2 : w5.cell? ⟨w3.heap.size, 2, none⟩ = some (.slice none 0 0) := rz.cell 2; have fz0 : w5.frozen? ⟨w3.heap.size, 0, none⟩ = false := rz.free 0; have fz1 : w5.frozen? ⟨w3.heap.size, 1, none⟩ = false := rz.free 1; have fz2 : w5.frozen? ⟨w3.heap.size, 2, none⟩ = false := rz.free 2; replace rz := Lib.hid rz)
      | (go_at_call 23; (with_reducible refine (WH.out _ (btrans B3.out.below K1) v hsv.out).mono ?_); rintro e w5 h5; replace h5 := Lib.hid h5; obtain ⟨Y, rfl, hr5, hb5⟩ := XX.out _ _ _ h5.out)
      | (go_at_call 10; (with_reducible refine (GR_.out _ (balloc B3.out.below _).drew).mono ?_); rintro e w4 h4; have hb4 := h4.1; replace h4 := Lib.hid h4; obtain ⟨v, rfl, hsv⟩ := h4.out.v; replace hsv := Lib.hid hsv; have KZ : Below (w3.alloc gzc).heap.size (w3.alloc gzc) w4 := ⟨hb4.os, hb4.tape, hb4.output, hb4.size, hb4.block⟩; have K1 : Below w3.heap.size w3 w4 := btrans (balloc (Below.refl _ _) _) KZ; obtain ⟨g0', g1', g2', a0', a1', a2'⟩ := CB.out w4 (B3.out.next K1))
      | (go_at_call 10; (with_reducible refine (GR_.out _ B3.out.below.drew).mono ?_); rintro e w4 h4; have hb4 := h4.1; replace h4 := Lib.hid h4; obtain ⟨v, rfl, hsv⟩ := h4.out.v; replace hsv := Lib.hid hsv; have K1 : Below w3.heap.size w3 w4 := ⟨hb4.os, hb4.tape, hb4.output, hb4.size, hb4.block⟩; obtain ⟨g0', g1', g2', a0', a1', a2'⟩ := CB.out w4 (B3.out.next K1); have KA : Below w3.heap.size w3 (w4.alloc gzc) := balloc K1 _; have h1l4 : W.heap.size < w4.heap.size := (by have := K1.size; omega); have h2l4 : W.heap.size + 1 < w4.heap.size := (by have := K1.size; omega)))
    all_goals (
      go_wp2_with fail
      go_meet
      first
        | exact ⟨w5.heap.size, Y, rfl, rfl, rfl, rfl, RowAt.new #[_, _, _] rfl, (hr5.below (balloc (Below.refl _ _) _)).keeps (Keeps.refl _ _) K1.size, balloc (btrans K1 hb5) _⟩
        | exact ⟨w4.heap.size, Y, rfl, rfl, rfl, rfl, ((rz.out.set 0 _).set 1 _).set 2 _, law_a hr5 K1.size, law_b (btrans KA hb5) K1.size⟩
        | exact ⟨w3.heap.size, Y, rfl, rfl, rfl, rfl, ((rz.out.set 0 _).set 1 _).set 2 _, law_c hr5 KZ, law_b (btrans K1 hb5) (Nat.le_refl _)⟩)
  case rest =>
    obtain ⟨z, Y, rfl, rfl, rfl, rfl, hrz, hRd, hbc⟩ := hcut
    have B4 := Lib.hid (B3.out.next hbc.out)
    obtain ⟨w4, hw4⟩ : ∃ x, x = wc := ⟨_, rfl⟩
    subst hw4
    have hpw4 : Hid (newB G sets A = true → ∃ p, pa = some ⟨p, 0, none⟩ ∧ PrAt w4 p G sets A) := fun hn => by
      obtain ⟨p, h1, h2⟩ := hpw.out hn
      exact ⟨p, h1, h2.below hbc.out⟩
    have hRP := Lib.hid hRd.out.at.2.2.2.1
    have hRT := Lib.hid hRd.out.at.2.2.2.2
    have hb4 := Lib.hid B4.out.below
    clear g0 g1 g2 a0 a1 a2 hZ GR_ WH NV hbc hRd hrz hpw XX
    by_cases he : err = 0
    · obtain ⟨hn, hin1, hin2⟩ := hok.out he
      obtain ⟨p, hpe, hPr⟩ := hpw4.out hn
      subst hpe he
      obtain ⟨hs, hc⟩ := newB_split hn
      have s16 := (src_sets hs).2.1
      obtain ⟨c0, c16, _⟩ := chk_sets hc
      obtain ⟨sn, hsn⟩ := Int.eq_ofNat_of_zero_le c0
      obtain ⟨ns, hns⟩ : ∃ n, n = sets.length := ⟨_, rfl⟩
      have hall : allS sets A = sn + ns := by unfold allS; rw [hsn, ← hns]; rfl
      have a0 : w4.cell? ⟨W.heap.size + 1, 0, none⟩ = some (.int .i64 sn) := by rw [← show A.sets = (sn : Int) from hsn]; exact B4.out.ra.cell 0
      have hsn16 : (sn : Int) ≤ 16 := by omega
      have hns16 : (ns : Int) ≤ 16 := by omega
      obtain ⟨Yia, Yic, Yea, Yec, Yla, Ylc, Yqa, Yqc, Yba, Ybc, Yra, Yrc⟩ := Y
      dsimp only at hRP hRT ⊢
      have INx : Hid (∀ w, Below w4.heap.size w4 w → ∀ x, Calls Try.prog 16 #[.pointer (some ⟨p, 0, none⟩), .agg #[.int .i64 x.node, .int .i64 x.state, .int .i64 x.turn]] w fun e w' => e = .returned (.bool (inP G sets A x)) ∧ Below w.heap.size w w') := fun w hb x => in_any w p G sets A (hPr.below hb) x
      have NXx : Hid (∀ w, Below w4.heap.size w4 w → ∀ x, Calls Try.prog 15 #[.pointer (some ⟨p, 0, none⟩), .agg #[.int .i64 x.node, .int .i64 x.state, .int .i64 x.turn]] w (GivesQ w (nextP G sets A x))) := fun w hb x => next_any w p G sets A (hPr.below hb) lt.out x
      obtain ⟨N, hN⟩ : ∃ n, n = sn + ns := ⟨_, rfl⟩
      have hNw : (sn : Int) + (ns : Int) = (N : Int) := by omega
      have hallN : Hid (allS sets A = N) := by show _ = _; rw [hall, hN]
      have hN32 : (N : Int) ≤ 32 := by omega
      have hz0 : ((0 : Int) != 0) = false := rfl
      replace hin1 := Lib.hid hin1
      replace hin2 := Lib.hid hin2
      replace hPr := Lib.hid hPr
      replace hs := Lib.hid hs
      replace hc := Lib.hid hc
      have hNs : Hid ((sn : Int) + (sets.length : Int) = (N : Int)) := by show _ = _; rw [← hns]; omega
      have hsl16 : (sets.length : Int) ≤ 16 := by omega
      replace hsn := Lib.hid hsn
      replace hNw := Lib.hid hNw
      clear hok hpw4 s16 c0 c16 hall hns hN hn
      go_wp2
      rw [hNs.out]
      clear hNs a0 hns16 hsn16 hsl16
      go_loopw [6, 13] (fun bv iv wr => ∃ i : Nat, bv = .bool false ∧ i ≤ nq ∧ iv = .int .i64 i ∧ Hid (Below w4.heap.size w4 wr)) (fun _ iv _ => nq - (intOf iv).toNat)
      case atStart => exact ⟨0, rfl, Nat.zero_le _, rfl, Below.refl _ _⟩
      case round =>
        obtain ⟨i, rfl, hi, rfl, hbr⟩ := hrel
        by_cases hil : i < nq
        · have hi2 : (i : Int) < (nq : Int) := by omega
          have hiL : i < s.l.length := by have := hnq.out; omega
          have hiN : i < s.ins.length := by have := hin1.out; omega
          have hib : (i : Int) < (nb : Int) := by have := hnb.out; omega
          obtain ⟨b, off, rfl, hbl, x0, x1, x2⟩ := (hRP.out.below hbr.out).at i hiL
          obtain ⟨b2, o2, rfl, hb2l, t0⟩ := (hRT.out.below hbr.out).at i hiN
          have hti : Hid (s.ins[i] = inP G sets A s.l[i]) := by
            have h1 := hin2.out i hiL
            rw [List.getElem?_eq_getElem hiN] at h1
            exact Option.some.inj h1
          obtain ⟨x, hx⟩ : ∃ x, x = s.l[i] := ⟨_, rfl⟩
          rw [← hx] at x0 x1 x2 hti
          obtain ⟨bo, hbo⟩ : ∃ x, x = s.ins[i] := ⟨_, rfl⟩
          rw [← hbo] at t0 hti
          have IN := INx.out wr.drew hbr.out.drew x
          rw [← hti.out] at IN
          have hint : Hid (bo = true → x.turn = 0) := fun h => in_turn (hti.out ▸ h)
          have NX := NXx.out
          obtain ⟨ys, hys⟩ : ∃ l, l = nextP G sets A x := ⟨_, rfl⟩
          have hyt : Hid (∀ y ∈ ys, isP sets A x = true ∧ y.turn = turnP G sets A x) := by rw [hys]; exact next_turn
          have hyb : ys.length ≤ 144 := by rw [hys]; exact nextP_len lt.out x
          have hTn := turn_next (G := G) (sets := sets) (A := A) (x := x)
          have hTr : isP sets A x = true → ∃ t : Nat, x.turn = t ∧ t < max N 1 := fun h => by
            obtain ⟨k, t, _, h2, _, h4⟩ := isP_range h
            rw [hallN.out] at h4
            exact ⟨t, h2, h4⟩
          rw [hallN.out] at hTn
          have NX2 : Hid (∀ w, Below w4.heap.size w4 w → Calls Try.prog 15 #[.pointer (some ⟨p, 0, none⟩), .agg #[.int .i64 x.node, .int .i64 x.state, .int .i64 x.turn]] w fun e w' => ∃ a c, e = .returned (.slice a ys.length c) ∧ PpsAt w' a ys ∧ Below w.heap.size w w') := fun w hb => by
            have h1 := NXx.out w hb x
            rw [← hys] at h1
            exact h1.mono fun e w' ⟨a, c, h1, h2, h3⟩ => ⟨a, c, h1, PpsAt.of_own h2, h3⟩
          obtain ⟨xn, xs, xt⟩ := x
          simp only at x0 x1 x2 hint hTn hTr IN NX2
          replace IN := Lib.hid IN
          replace hx := Lib.hid hx
          replace hbo := Lib.hid hbo
          replace hys := Lib.hid hys
          replace hTn := Lib.hid hTn
          replace hTr := Lib.hid hTr
          have hS : Hid (∀ w', Below wr.heap.size wr w' → w'.cell? ⟨b, off + i * 3, none⟩ = some (.int .i64 xn) ∧ w'.cell? ⟨b, off + i * 3 + 1, none⟩ = some (.int .i64 xs) ∧ w'.cell? ⟨b, off + i * 3 + 2, none⟩ = some (.int .i64 xt) ∧ w'.cell? ⟨b2, o2 + i, none⟩ = some (.bool bo)) := fun w' hb => ⟨bcell hb x0, bcell hb x1, bcell hb x2, bcell hb t0⟩
          have hbb : (bo != bo) = false := by simp
          clear NX
          go_upto_region 11 with (fail)
          go_cut [76] (fun v wx => v = .bool false ∧ Hid (Below wr.heap.size wr wx))
          case first =>
            cases bo with
            | true =>
              obtain rfl : xt = 0 := hint.out rfl
              go_region_law (first
                | (go_simp; go_at_call 16; (with_reducible refine IN.out.mono ?_); rintro e w6 ⟨rfl, hb6⟩; have K1 : Below wr.heap.size wr w6 := ⟨hb6.os, hb6.tape, hb6.output, hb6.size, hb6.block⟩; obtain ⟨x0', x1', x2', t0'⟩ := hS.out w6 K1; replace K1 := Lib.hid K1))
              all_goals (
                go_wp2_with fail
                go_meet
                exact ⟨rfl, K1.out⟩)
            | false =>
              refine wp_region_held_drew (S := (fun w' => w'.cell? ⟨b, off + i * 3, none⟩ = some (.int .i64 xn) ∧ w'.cell? ⟨b, off + i * 3 + 1, none⟩ = some (.int .i64 xs) ∧ w'.cell? ⟨b, off + i * 3 + 2, none⟩ = some (.int .i64 xt) ∧ w'.cell? ⟨b2, o2 + i, none⟩ = some (.bool false))) (by kernel_rfl) (hS.out _ (Below.refl _ _).drew) (fun hHeld => ?_)
              refine wpAnyH_take (i := 0) (oi := ({ dst := some 52, op := Go.Op.move (Go.Operand.tmp 10), type := 65, pos := "law.go:137", after := #[], guard := none } : Oper)) (v := ?_) rfl (by kernel_rfl) (by kernel_rfl) (by kernel_rfl) (fun _ _ _ h => h) (Or.inl ⟨by rfl, ?_⟩) (by assumption) ?_
              case refine_2 => (intro w hSw; (try dsimp only at hSw); go_simp; try with_reducible rfl)
              try simp only [Act.put, List.setIfInBounds_toArray, List.set_cons_zero, List.set_cons_succ]
              refine wpAnyH_take (i := 1) (oi := ({ dst := some 53, op := Go.Op.move (Go.Operand.tmp 13), type := 3, pos := "law.go:137", after := #[], guard := none } : Oper)) (v := ?_) rfl (by kernel_rfl) (by kernel_rfl) (by kernel_rfl) (fun _ _ _ h => h) (Or.inl ⟨by rfl, ?_⟩) (by assumption) ?_
              case refine_2 => (intro w hSw; (try dsimp only at hSw); go_simp; try with_reducible rfl)
              try simp only [Act.put, List.setIfInBounds_toArray, List.set_cons_zero, List.set_cons_succ]
              refine wpAnyH_take (i := 2) (oi := ({ dst := some 54, op := Go.Op.indexAddr 65 (Go.Operand.tmp 52) (Go.Operand.tmp 53), type := 0, pos := "law.go:137", after := #[{ on := 0, ground := Go.Ground.data }, { on := 1, ground := Go.Ground.data }], guard := none } : Oper)) (v := ?_) rfl (by kernel_rfl) (by kernel_rfl) (by kernel_rfl) (fun _ _ _ h => h) (Or.inl ⟨by rfl, ?_⟩) (by assumption) ?_
              case refine_2 => (intro w hSw; (try dsimp only at hSw); go_simp; try with_reducible rfl)
              try simp only [Act.put, List.setIfInBounds_toArray, List.set_cons_zero, List.set_cons_succ]
              refine wpAnyH_take (i := 3) (oi := ({ dst := some 55, op := Go.Op.load 4 (Go.Operand.tmp 54), type := 4, pos := "law.go:137", after := #[{ on := 2, ground := Go.Ground.data }], guard := none } : Oper)) (v := ?_) rfl (by kernel_rfl) (by kernel_rfl) (by kernel_rfl) (fun _ _ _ h => h) (Or.inl ⟨by rfl, ?_⟩) (by assumption) ?_
              case refine_2 => (intro w hSw; (try dsimp only at hSw); go_simp; try with_reducible rfl)
              try simp only [Act.put, List.setIfInBounds_toArray, List.set_cons_zero, List.set_cons_succ]
              refine wpAnyH_take (i := 4) (oi := ({ dst := some 56, op := Go.Op.move (Go.Operand.tmp 7), type := 44, pos := "law.go:137", after := #[], guard := none } : Oper)) (v := ?_) rfl (by kernel_rfl) (by kernel_rfl) (by kernel_rfl) (fun _ _ _ h => h) (Or.inl ⟨by rfl, ?_⟩) (by assumption) ?_
              case refine_2 => (intro w hSw; (try dsimp only at hSw); go_simp; try with_reducible rfl)
              try simp only [Act.put, List.setIfInBounds_toArray, List.set_cons_zero, List.set_cons_succ]
              refine wpAnyH_take (i := 5) (oi := ({ dst := some 57, op := Go.Op.move (Go.Operand.tmp 9), type := 46, pos := "law.go:137", after := #[], guard := none } : Oper)) (v := ?_) rfl (by kernel_rfl) (by kernel_rfl) (by kernel_rfl) (fun _ _ _ h => h) (Or.inl ⟨by rfl, ?_⟩) (by assumption) ?_
              case refine_2 => (intro w hSw; (try dsimp only at hSw); go_simp; try with_reducible rfl)
              try simp only [Act.put, List.setIfInBounds_toArray, List.set_cons_zero, List.set_cons_succ]
              refine wpAnyH_take (i := 6) (oi := ({ dst := some 58, op := Go.Op.move (Go.Operand.tmp 13), type := 3, pos := "law.go:137", after := #[], guard := none } : Oper)) (v := ?_) rfl (by kernel_rfl) (by kernel_rfl) (by kernel_rfl) (fun _ _ _ h => h) (Or.inl ⟨by rfl, ?_⟩) (by assumption) ?_
              case refine_2 => (intro w hSw; (try dsimp only at hSw); go_simp; try with_reducible rfl)
              try simp only [Act.put, List.setIfInBounds_toArray, List.set_cons_zero, List.set_cons_succ]
              refine wpAnyH_take (i := 7) (oi := ({ dst := some 59, op := Go.Op.indexAddr 46 (Go.Operand.tmp 57) (Go.Operand.tmp 58), type := 0, pos := "law.go:137", after := #[{ on := 5, ground := Go.Ground.data }, { on := 6, ground := Go.Ground.data }], guard := none } : Oper)) (v := ?_) rfl (by kernel_rfl) (by kernel_rfl) (by kernel_rfl) (fun _ _ _ h => h) (Or.inl ⟨by rfl, ?_⟩) (by assumption) ?_
              case refine_2 => (intro w hSw; (try dsimp only at hSw); go_simp; try with_reducible rfl)
              try simp only [Act.put, List.setIfInBounds_toArray, List.set_cons_zero, List.set_cons_succ]
              refine wpAnyH_take (i := 8) (oi := ({ dst := some 60, op := Go.Op.load 32 (Go.Operand.tmp 59), type := 32, pos := "law.go:137", after := #[{ on := 7, ground := Go.Ground.data }], guard := none } : Oper)) (v := ?_) rfl (by kernel_rfl) (by kernel_rfl) (by kernel_rfl) (fun _ _ _ h => h) (Or.inl ⟨by rfl, ?_⟩) (by assumption) ?_
              case refine_2 => (intro w hSw; (try dsimp only at hSw); go_simp; try with_reducible rfl)
              try simp only [Act.put, List.setIfInBounds_toArray, List.set_cons_zero, List.set_cons_succ]
              refine wpAnyH_ready (rs := [9]) (by kernel_rfl) (by simp) ?_
              refine AllReadyH.cons (o := ({ dst := some 61, op := Go.Op.call { callee := Go.Callee.value (Go.Operand.func 16), args := #[Go.Operand.tmp 56, Go.Operand.tmp 60], argTypes := #[44, 32] }, type := 4, pos := "law.go:137", after := #[{ on := 4, ground := Go.Ground.data }, { on := 8, ground := Go.Ground.data }], guard := none } : Oper)) rfl (fun K hK => ?_) AllReadyH.nil
              go_simp
              go_at_call 16
              (with_reducible refine IN.out.mono ?_)
              rintro e w6 ⟨rfl, hb6⟩
              have K1 : Below wr.heap.size wr w6 := ⟨hb6.os, hb6.tape, hb6.output, hb6.size, hb6.block⟩
              clear hHeld
              refine hK.out _ _ (hS.out _ K1) (fun hHeld => ?_)
              clear hK K
              try simp only [Act.put, List.setIfInBounds_toArray, List.set_cons_zero, List.set_cons_succ]
              refine wpAnyH_take (i := 10) (oi := ({ dst := some 62, op := Go.Op.binOp Go.BinOp.neq 4 (Go.Operand.tmp 55) (Go.Operand.tmp 61) 4, type := 4, pos := "law.go:137", after := #[{ on := 3, ground := Go.Ground.data }, { on := 9, ground := Go.Ground.data }], guard := none } : Oper)) (v := ?_) rfl (by kernel_rfl) (by kernel_rfl) (by kernel_rfl) (fun _ _ _ h => h) (Or.inl ⟨by rfl, ?_⟩) (by assumption) ?_
              case refine_2 => (intro w hSw; (try dsimp only at hSw); go_simp; try with_reducible rfl)
              try simp only [Act.put, List.setIfInBounds_toArray, List.set_cons_zero, List.set_cons_succ]
              refine wpAnyH_take (i := 11) (oi := ({ dst := some 63, op := Go.Op.move (Go.Operand.tmp 62), type := 4, pos := "law.go:137", after := #[{ on := 10, ground := Go.Ground.data }, { on := 9, ground := Go.Ground.chain }], guard := none } : Oper)) (v := ?_) rfl (by kernel_rfl) (by kernel_rfl) (by kernel_rfl) (fun _ _ _ h => h) (Or.inl ⟨by rfl, ?_⟩) (by assumption) ?_
              case refine_2 => (intro w hSw; (try dsimp only at hSw); go_simp; try with_reducible rfl)
              try simp only [Act.put, List.setIfInBounds_toArray, List.set_cons_zero, List.set_cons_succ]
              refine wpAnyH_take (i := 12) (oi := ({ dst := some 64, op := Go.Op.move (Go.Operand.tmp 10), type := 65, pos := "law.go:137", after := #[{ on := 11, ground := Go.Ground.guard }], guard := some (11, false) } : Oper)) (v := ?_) rfl (by kernel_rfl) (by kernel_rfl) (by kernel_rfl) (fun _ _ _ h => h) (Or.inl ⟨by rfl, ?_⟩) (by assumption) ?_
              case refine_2 => (intro w hSw; (try dsimp only at hSw); go_simp; try with_reducible rfl)
              try simp only [Act.put, List.setIfInBounds_toArray, List.set_cons_zero, List.set_cons_succ]
              refine wpAnyH_take (i := 13) (oi := ({ dst := some 65, op := Go.Op.move (Go.Operand.tmp 13), type := 3, pos := "law.go:137", after := #[{ on := 11, ground := Go.Ground.guard }], guard := some (11, false) } : Oper)) (v := ?_) rfl (by kernel_rfl) (by kernel_rfl) (by kernel_rfl) (fun _ _ _ h => h) (Or.inl ⟨by rfl, ?_⟩) (by assumption) ?_
              case refine_2 => (intro w hSw; (try dsimp only at hSw); go_simp; try with_reducible rfl)
              try simp only [Act.put, List.setIfInBounds_toArray, List.set_cons_zero, List.set_cons_succ]
              refine wpAnyH_take (i := 14) (oi := ({ dst := some 66, op := Go.Op.indexAddr 65 (Go.Operand.tmp 64) (Go.Operand.tmp 65), type := 0, pos := "law.go:137", after := #[{ on := 12, ground := Go.Ground.data }, { on := 13, ground := Go.Ground.data }, { on := 11, ground := Go.Ground.guard }], guard := some (11, false) } : Oper)) (v := ?_) rfl (by kernel_rfl) (by kernel_rfl) (by kernel_rfl) (fun _ _ _ h => h) (Or.inl ⟨by rfl, ?_⟩) (by assumption) ?_
              case refine_2 => (intro w hSw; (try dsimp only at hSw); go_simp; try with_reducible rfl)
              try simp only [Act.put, List.setIfInBounds_toArray, List.set_cons_zero, List.set_cons_succ]
              refine wpAnyH_take (i := 15) (oi := ({ dst := some 67, op := Go.Op.load 4 (Go.Operand.tmp 66), type := 4, pos := "law.go:137", after := #[{ on := 14, ground := Go.Ground.data }, { on := 11, ground := Go.Ground.guard }], guard := some (11, false) } : Oper)) (v := ?_) rfl (by kernel_rfl) (by kernel_rfl) (by kernel_rfl) (fun _ _ _ h => h) (Or.inl ⟨by rfl, ?_⟩) (by assumption) ?_
              case refine_2 => (intro w hSw; (try dsimp only at hSw); go_simp; try with_reducible rfl)
              try simp only [Act.put, List.setIfInBounds_toArray, List.set_cons_zero, List.set_cons_succ]
              refine wpAnyH_take (i := 16) (oi := ({ dst := some 68, op := Go.Op.move (Go.Operand.tmp 67), type := 4, pos := "law.go:137", after := #[{ on := 15, ground := Go.Ground.data }, { on := 11, ground := Go.Ground.chain }, { on := 11, ground := Go.Ground.guard }], guard := some (11, false) } : Oper)) (v := ?_) rfl (by kernel_rfl) (by kernel_rfl) (by kernel_rfl) (fun _ _ _ h => h) (Or.inl ⟨by rfl, ?_⟩) (by assumption) ?_
              case refine_2 => (intro w hSw; (try dsimp only at hSw); go_simp; try with_reducible rfl)
              try simp only [Act.put, List.setIfInBounds_toArray, List.set_cons_zero, List.set_cons_succ]
              refine wpAnyH_take (i := 17) (oi := ({ dst := some 69, op := Go.Op.move (Go.Operand.tmp 9), type := 46, pos := "law.go:137", after := #[{ on := 16, ground := Go.Ground.guard }], guard := some (16, true) } : Oper)) (v := undef) rfl (by kernel_rfl) (by kernel_rfl) (by kernel_rfl) (fun _ _ _ h => h) (Or.inr ⟨by rfl, rfl⟩) (by assumption) ?_
              try simp only [Act.put, List.setIfInBounds_toArray, List.set_cons_zero, List.set_cons_succ]
              refine wpAnyH_take (i := 18) (oi := ({ dst := some 70, op := Go.Op.move (Go.Operand.tmp 13), type := 3, pos := "law.go:137", after := #[{ on := 16, ground := Go.Ground.guard }], guard := some (16, true) } : Oper)) (v := undef) rfl (by kernel_rfl) (by kernel_rfl) (by kernel_rfl) (fun _ _ _ h => h) (Or.inr ⟨by rfl, rfl⟩) (by assumption) ?_
              try simp only [Act.put, List.setIfInBounds_toArray, List.set_cons_zero, List.set_cons_succ]
              refine wpAnyH_take (i := 19) (oi := ({ dst := some 71, op := Go.Op.indexAddr 46 (Go.Operand.tmp 69) (Go.Operand.tmp 70), type := 0, pos := "law.go:137", after := #[{ on := 17, ground := Go.Ground.data }, { on := 18, ground := Go.Ground.data }, { on := 16, ground := Go.Ground.guard }], guard := some (16, true) } : Oper)) (v := undef) rfl (by kernel_rfl) (by kernel_rfl) (by kernel_rfl) (fun _ _ _ h => h) (Or.inr ⟨by rfl, rfl⟩) (by assumption) ?_
              try simp only [Act.put, List.setIfInBounds_toArray, List.set_cons_zero, List.set_cons_succ]
              refine wpAnyH_take (i := 20) (oi := ({ dst := some 72, op := Go.Op.fieldAddr 32 (Go.Operand.tmp 71) 2, type := 0, pos := "law.go:137", after := #[{ on := 19, ground := Go.Ground.data }, { on := 16, ground := Go.Ground.guard }], guard := some (16, true) } : Oper)) (v := undef) rfl (by kernel_rfl) (by kernel_rfl) (by kernel_rfl) (fun _ _ _ h => h) (Or.inr ⟨by rfl, rfl⟩) (by assumption) ?_
              try simp only [Act.put, List.setIfInBounds_toArray, List.set_cons_zero, List.set_cons_succ]
              refine wpAnyH_take (i := 21) (oi := ({ dst := some 73, op := Go.Op.load 3 (Go.Operand.tmp 72), type := 3, pos := "law.go:137", after := #[{ on := 20, ground := Go.Ground.data }, { on := 16, ground := Go.Ground.guard }], guard := some (16, true) } : Oper)) (v := undef) rfl (by kernel_rfl) (by kernel_rfl) (by kernel_rfl) (fun _ _ _ h => h) (Or.inr ⟨by rfl, rfl⟩) (by assumption) ?_
              try simp only [Act.put, List.setIfInBounds_toArray, List.set_cons_zero, List.set_cons_succ]
              refine wpAnyH_take (i := 22) (oi := ({ dst := some 74, op := Go.Op.binOp Go.BinOp.neq 3 (Go.Operand.tmp 73) (Go.Operand.const (Go.Value.int Go.IntKind.i64 0)) 3, type := 4, pos := "law.go:137", after := #[{ on := 21, ground := Go.Ground.data }, { on := 16, ground := Go.Ground.guard }], guard := some (16, true) } : Oper)) (v := undef) rfl (by kernel_rfl) (by kernel_rfl) (by kernel_rfl) (fun _ _ _ h => h) (Or.inr ⟨by rfl, rfl⟩) (by assumption) ?_
              try simp only [Act.put, List.setIfInBounds_toArray, List.set_cons_zero, List.set_cons_succ]
              refine wpAnyH_take (i := 23) (oi := ({ dst := some 75, op := Go.Op.pick (Go.Operand.tmp 68) (Go.Operand.tmp 74) (Go.Operand.const (Go.Value.bool false)), type := 4, pos := "law.go:137", after := #[{ on := 16, ground := Go.Ground.data }, { on := 22, ground := Go.Ground.data }, { on := 11, ground := Go.Ground.guard }], guard := some (11, false) } : Oper)) (v := ?_) rfl (by kernel_rfl) (by kernel_rfl) (by kernel_rfl) (fun _ _ _ h => h) (Or.inl ⟨by rfl, ?_⟩) (by assumption) ?_
              case refine_2 => (intro w hSw; (try dsimp only at hSw); go_simp; try with_reducible rfl)
              try simp only [Act.put, List.setIfInBounds_toArray, List.set_cons_zero, List.set_cons_succ]
              refine wpAnyH_take (i := 24) (oi := ({ dst := some 76, op := Go.Op.pick (Go.Operand.tmp 63) (Go.Operand.const (Go.Value.bool true)) (Go.Operand.tmp 75), type := 4, pos := "law.go:137", after := #[{ on := 11, ground := Go.Ground.data }, { on := 23, ground := Go.Ground.data }], guard := none } : Oper)) (v := ?_) rfl (by kernel_rfl) (by kernel_rfl) (by kernel_rfl) (fun _ _ _ h => h) (Or.inl ⟨by rfl, ?_⟩) (by assumption) ?_
              case refine_2 => (intro w hSw; (try dsimp only at hSw); go_simp; try with_reducible rfl)
              try simp only [Act.put, List.setIfInBounds_toArray, List.set_cons_zero, List.set_cons_succ]
              refine wpAnyH_done (by kernel_rfl) ?_ _
              go_wp2_with fail
              go_meet
              exact ⟨rfl, K1⟩
          case rest =>
            obtain ⟨rfl, hbc2⟩ := hcut
            obtain ⟨x0, x1, x2, _⟩ := hS.out wc hbc2.out
            have hbr2 := Lib.hid (btrans hbr.out hbc2.out)
            go_wp2_with fail
            refine (NX2.out wc hbr2.out).mono ?_
            rintro e w7 ⟨a7, c7, rfl, hP7, hb7⟩
            have hbr7 := Lib.hid (btrans hbr2.out hb7)
            obtain ⟨_, _, x2', _⟩ := hS.out w7 (btrans hbc2.out hb7)
            obtain ⟨ny, hny⟩ : ∃ n, n = ys.length := ⟨_, rfl⟩
            rw [← hny] at hyb ⊢
            have hnyi : (ny : Int) ≤ 144 := by omega
            replace hP7 := Lib.hid hP7
            replace hny := Lib.hid hny
            clear x0 x1 x2 hb7 hS IN NX2 t0 hbb
            go_wp2
            go_loop [6, 15] (fun bv kv => ∃ k : Nat, bv = .bool false ∧ k ≤ ny ∧ kv = .int .i64 k) (fun _ kv => ny - (intOf kv).toNat)
            case atStart => exact ⟨0, rfl, Nat.zero_le _, rfl⟩
            case round =>
              obtain ⟨k, rfl, hk, rfl⟩ := hrel
              by_cases hkl : k < ny
              · have hk2 : (k : Int) < (ny : Int) := by omega
                have hny0 : (0 : Int) < (ny : Int) := by omega
                have hkL : k < ys.length := by have := hny.out; omega
                have h0L : 0 < ys.length := by omega
                obtain ⟨b7, o7, rfl, _, _, _, yk⟩ := hP7.out.at k hkL
                obtain ⟨b7', o7', e7, _, _, _, y0⟩ := hP7.out.at 0 h0L
                simp only [Option.some.injEq, Addr.mk.injEq, and_true] at e7
                obtain ⟨rfl, rfl⟩ := e7
                have hk3 := hyt.out _ (List.getElem_mem hkL)
                have h03 := hyt.out _ (List.getElem_mem h0L)
                rw [hk3.2] at yk
                rw [h03.2, Nat.zero_mul, Nat.add_zero] at y0
                obtain ⟨t, hxt, htN⟩ := hTr.out hk3.1
                have hT := hTn.out hk3.1
                generalize turnP G sets A ⟨xn, xs, xt⟩ = T at yk y0 hT
                subst hxt
                have hTT : (T != T) = false := by simp
                have ht40 : (t : Int) ≤ 40 := by omega
                clear hk3 h03
                by_cases hN0 : N = 0
                · obtain rfl : T = 0 := hT.1 hN0
                  have n0 : ((N : Int) == 0) = true := by simp [hN0]
                  have n1 : decide (0 < (N : Int)) = false := by simp [hN0]
                  have n3 : ¬ 0 < N := by omega
                  have n4 : decide (0 < N) = false := by simp [hN0]
                  clear hN0 hT
                  go_wp2
                  go_round
                  case rel => exact ⟨k + 1, rfl, by omega, by go_num⟩
                  case measure => simp [intOf]; omega
                · have n0 : ((N : Int) == 0) = false := by simpa using hN0
                  have n1 : decide (0 < (N : Int)) = true := by simp; omega
                  have n2 : (0 : Int) < (N : Int) := by omega
                  have n3 : 0 < N := by omega
                  by_cases hTt : T = (t : Int)
                  · subst hTt
                    clear hN0 hT
                    go_wp2
                    go_round
                    case rel => exact ⟨k + 1, rfl, by omega, by go_num⟩
                    case measure => simp [intOf]; omega
                  · have hTt2 : (T != (t : Int)) = true := by simpa using hTt
                    have hTm : T = ((t : Int) + 1) % (N : Int) := by
                      rcases hT.2 with h | h
                      · exact absurd h hTt
                      · exact h.2
                    have hTm2 : (T != ((t : Int) + 1) % (N : Int)) = false := by rw [← hTm]; simp
                    clear hN0 hT hTt hTm
                    go_wp2
                    go_round
                    case rel => exact ⟨k + 1, rfl, by omega, by go_num⟩
                    case measure => simp [intOf]; omega
              · obtain rfl : k = ny := by omega
                go_wp2
                go_roundw
                case rel => exact ⟨i + 1, rfl, by omega, by go_num, hbr7.out⟩
                case measure => simp [intOf]; omega
        · obtain rfl : i = nq := by omega
          go_wp2_with fail
          refine (awake_true _).mono ?_
          rintro e w10 ⟨rfl, hb10⟩
          go_wp2
          go_ret
          exact ⟨rfl, btrans hb4.out (btrans hbr.out hb10)⟩
    · have he' : (err != 0) = true := by simpa using he
      clear hpw4 hok he
      go_wp2_with fail
      refine (awake_true _).mono ?_
      rintro e w10 ⟨rfl, hb10⟩
      go_wp2
      go_ret
      exact ⟨rfl, btrans hb4.out hb10⟩
theorem prodTurns_walk (W : World) (c : Array Value) (G : GR) (h : rGR W c.toList G) (v : Value) (sets : List (List Bool)) (hv : rSl 1 24 (rSl 1 1 rBool) W [v] sets) (ca : Array Value) (A : AU) (ha : rAU W ca.toList A) :
    Calls Try.prog 7 #[.agg c, v, .agg ca] W fun e w' => e = .returned (.bool true) ∧ Below W.heap.size W w' := by
  obtain ⟨X, rfl, rfl, rfl, L⟩ := LawIn.of h hv ha
  cases hl : lightB G sets A with
  | false => exact turns_dark W X G sets A L hl
  | true => exact turns_light W X G sets A L hl
end Go.Proofs.Ytmlbjfaofppikaa
