/- The walk of 'ProdWhole'. No conditions but the form's reach. -/
import Derived.Test.YtmlbjfaofppikaaPrRWhole
import Derived.Test.YtmlbjfaofppikaaPrGSame
import Derived.Test.YtmlbjfaofppikaaPrWholeB
namespace Go.Proofs.Ytmlbjfaofppikaa
open Go.RowKit

/-- what a whole product reads as -/
def Reads (w : World) (X : WX) (init : List Int) (s : WR) : Prop := NumsAt .i64 w X.ia init ∧ EdgesAt w X.ea s.es ∧ NumsAt .u64 w X.la (natI s.labs) ∧ PpsAt w X.qa s.l ∧ TruthsAt w X.ba s.ins
/-- it reads so, whatever becomes of blocks below B -/
def ReadsB (B : Nat) (w : World) (X : WX) (init : List Int) (s : WR) : Prop := ∀ w2, Keeps w w2 (fun j => j < B) → Reads w2 X init s
theorem ReadsB.keeps {B B' : Nat} {w w' : World} {X : WX} {init : List Int} {s : WR} (h : ReadsB B w X init s) (hk : Keeps w w' (fun j => j < B)) (hB : B' ≤ B) : ReadsB B' w' X init s :=
  fun w2 hk2 => h w2 (hk.trans hk2 (fun j _ hj => by omega))
theorem ReadsB.below {B : Nat} {w w' : World} {X : WX} {init : List Int} {s : WR} (h : ReadsB B w X init s) (hb : Below w.heap.size w w') : ReadsB B w' X init s := h.keeps (Keeps.of_below hb) (Nat.le_refl _)
theorem ReadsB.at {B : Nat} {w : World} {X : WX} {init : List Int} {s : WR} (h : ReadsB B w X init s) : Reads w X init s := h w (Keeps.refl _ _)
theorem Whole4.x {err : Int} {init : List Int} {s : WR} {w w' : World} {e : Ending} (h : Whole4 err init s w e w') : ∃ X : WX, e = .returned (.tuple #[.agg #[.slice X.ia init.length X.ic, .slice X.ea s.es.length X.ec, .slice X.la s.labs.length X.lc], .slice X.qa s.l.length X.qc, .slice X.ba s.ins.length X.bc, .int .i64 err]) ∧ ReadsB w.heap.size w' X init s ∧ Below w.heap.size w w' := by
  obtain ⟨ia, ic, ea, ec, la, lc, qa, qc, ba, bc, h1, h2, h3⟩ := h
  exact ⟨⟨ia, ic, ea, ec, la, lc, qa, qc, ba, bc, none, 0⟩, h1, h2, h3⟩
structure Box2 (W : World) (X : RX) (G : GR) (A : AU) (w : World) : Prop where
  below : Below W.heap.size W w
  rg : RowAt w W.heap.size TG (gcells X G)
  ra : RowAt w (W.heap.size + 1) TA (acells X A)
theorem Box2.next {W : World} {X : RX} {G : GR} {A : AU} {w w' : World} (h : Box2 W X G A w) (hb : Below w.heap.size w w') : Box2 W X G A w' := ⟨btrans h.below hb, h.rg.below hb, h.ra.below hb⟩
theorem Box2.start (W : World) (X : RX) (G : GR) (A : AU) : Box2 W X G A ((W.alloc (.cells (gcells X G).toArray TG)).alloc (.cells (acells X A).toArray TA)) :=
  ⟨balloc (balloc (Below.refl _ _) _) _, (RowAt.new (gcells X G).toArray rfl).alloc _, RowAt.new (acells X A).toArray (by simp)⟩
theorem set3_keeps {w : World} {z n : Nat} (hz : z < n) (a b c : Value) : Keeps w (((w.setCell ⟨z, 0, none⟩ a).setCell ⟨z, 1, none⟩ b).setCell ⟨z, 2, none⟩ c) (fun j => j < n) :=
  ((Keeps.set (S := fun j => j < n) w z 0 a hz).trans (Keeps.set (S := fun j => j < n) _ z 1 b hz) (fun _ _ h => h)).trans (Keeps.set (S := fun j => j < n) _ z 2 c hz) (fun _ _ h => h)
theorem set3_below {w3 w5 : World} {z : Nat} {a b c : Value} (h : Below w3.heap.size w3 w5) (hz : w3.heap.size ≤ z) : Below w3.heap.size w3 (((w5.setCell ⟨z, 0, none⟩ a).setCell ⟨z, 1, none⟩ b).setCell ⟨z, 2, none⟩ c) := bsetN (bsetN (bsetN h hz) hz) hz
theorem law_a {w3 w4 w5 : World} {o : Obj} {Y : WX} {init : List Int} {s : WR} {a b c : Value} (h : ReadsB (w4.alloc o).heap.size w5 Y init s) (hs : w3.heap.size ≤ w4.heap.size) : ReadsB w3.heap.size (((w5.setCell ⟨w4.heap.size, 0, none⟩ a).setCell ⟨w4.heap.size, 1, none⟩ b).setCell ⟨w4.heap.size, 2, none⟩ c) Y init s :=
  h.keeps (set3_keeps (by simp) a b c) (by simp; omega)
theorem law_b {w3 w5 : World} {z : Nat} {a b c : Value} (h : Below w3.heap.size w3 w5) (hz : w3.heap.size ≤ z) : Below w3.heap.size w3 (((w5.setCell ⟨z, 0, none⟩ a).setCell ⟨z, 1, none⟩ b).setCell ⟨z, 2, none⟩ c) := bsetN (bsetN (bsetN h hz) hz) hz
theorem law_c {w3 w4 w5 : World} {o : Obj} {Y : WX} {init : List Int} {s : WR} {a b c : Value} (h : ReadsB w4.heap.size w5 Y init s) (hk : Below (w3.alloc o).heap.size (w3.alloc o) w4) : ReadsB w3.heap.size (((w5.setCell ⟨w3.heap.size, 0, none⟩ a).setCell ⟨w3.heap.size, 1, none⟩ b).setCell ⟨w3.heap.size, 2, none⟩ c) Y init s := by
  have h1 := hk.size
  have h2 : (w3.alloc o).heap.size = w3.heap.size + 1 := by simp
  exact h.keeps (set3_keeps (by omega) a b c) (by omega)
abbrev gzc : Obj := .cells #[.slice none 0 0, .slice none 0 0, .slice none 0 0] TG
set_option maxRecDepth 20000 in
set_option maxHeartbeats 8000000 in
theorem whole_dark (W : World) (X : RX) (G : GR) (sets : List (List Bool)) (A : AU) (m : Int) (h : LawIn W X G sets A) (hl : lightB G sets A = false) :
    Calls Try.prog 5 #[.agg (gcells X G).toArray, .slice X.as_ sets.length X.cs, .agg (acells X A).toArray, .int .i64 m] W fun e w' => e = .returned (.bool true) ∧ Below W.heap.size W w' := by
  obtain ⟨ai, ae, al, as_, bi, bn, ci, ce, cl, cs, di, dn⟩ := X
  have B0 := Box2.start W ⟨ai, ae, al, as_, bi, bn, ci, ce, cl, cs, di, dn⟩ G A
  have LI : Hid (∀ w, Below W.heap.size W w → Calls Try.prog 8 #[.agg #[.slice ai G.init.length ci, .slice ae G.edges.length ce, .slice al G.labels.length cl], .slice as_ sets.length cs, .agg #[.int .i64 A.sets, .slice bi A.init.length di, .slice bn A.nodes.length dn]] w fun e w' => e = .returned (.bool false) ∧ Below w.heap.size w w') := fun w hb => by
    rw [← hl]
    exact light_any w ⟨ai, ae, al, as_, bi, bn, ci, ce, cl, cs, di, dn⟩ G sets A (h.g.below hb) (h.au.below hb)
  have hb0 := Lib.hid B0.below
  have g0 := B0.rg.cell 0
  have g1 := B0.rg.cell 1
  have g2 := B0.rg.cell 2
  have a0 := B0.ra.cell 0
  have a1 := B0.ra.cell 1
  have a2 := B0.ra.cell 2
  clear h hl B0 g0 g1 g2 a0 a1 a2
  go_enter Try.func5, Try.ntmps5
  go_wp2_with fail
  refine (LI.out _ hb0.out).mono ?_
  rintro e w4 ⟨rfl, hb4⟩
  go_wp2_with fail
  refine (awake_true _).mono ?_
  rintro e w5 ⟨rfl, hb5⟩
  go_wp2
  go_ret
  exact ⟨rfl, btrans (btrans hb0.out hb4) hb5⟩
set_option maxRecDepth 20000 in
set_option maxHeartbeats 16000000 in
theorem whole_light (W : World) (X : RX) (G : GR) (sets : List (List Bool)) (A : AU) (m : Int) (h : LawIn W X G sets A) (hl : lightB G sets A = true) :
    Calls Try.prog 5 #[.agg (gcells X G).toArray, .slice X.as_ sets.length X.cs, .agg (acells X A).toArray, .int .i64 m] W fun e w' => e = .returned (.bool true) ∧ Below W.heap.size W w' := by
  have lt := lightB_lt hl
  obtain ⟨z1, z2, z3, z4, z5, z6⟩ := wholeP_len lt m
  obtain ⟨ai, ae, al, as_, bi, bn, ci, ce, cl, cs, di, dn⟩ := X
  have LI : Hid (∀ w, Below W.heap.size W w → Calls Try.prog 8 #[.agg #[.slice ai G.init.length ci, .slice ae G.edges.length ce, .slice al G.labels.length cl], .slice as_ sets.length cs, .agg #[.int .i64 A.sets, .slice bi A.init.length di, .slice bn A.nodes.length dn]] w fun e w' => e = .returned (.bool true) ∧ Below w.heap.size w w') := fun w hb => by
    rw [← hl]
    exact light_any w ⟨ai, ae, al, as_, bi, bn, ci, ce, cl, cs, di, dn⟩ G sets A (h.g.below hb) (h.au.below hb)
  have GR_ : Hid (∀ w, Below W.heap.size W w → Calls Try.prog 10 #[.agg #[.slice ai G.init.length ci, .slice ae G.edges.length ce, .slice al G.labels.length cl], .slice as_ sets.length cs] w (SrcMade G sets w)) := fun w hb => graph_any w ai ae al as_ ci ce cl cs G sets (h.g.below hb) h.ok (h.s.below hb)
  obtain ⟨⟨err, init, s⟩, hP⟩ : ∃ P, P = wholeP G sets A m := ⟨_, rfl⟩
  have WH : Hid (∀ w, Below W.heap.size W w → ∀ v, SrcV w G sets v → Calls Try.prog 23 #[v, .agg #[.int .i64 A.sets, .slice bi A.init.length di, .slice bn A.nodes.length dn], .int .i64 m] w (Whole4 err init s w)) := fun w hb v hv => by
    have := whole_any w bi bn di dn G sets A m v hv h.ok (h.au.below hb) h.aok lt
    rw [← hP] at this
    exact this
  have RW : Hid (∀ w, Below W.heap.size W w → Calls Try.prog 24 #[.agg #[.slice ai G.init.length ci, .slice ae G.edges.length ce, .slice al G.labels.length cl], .slice as_ sets.length cs, .agg #[.int .i64 A.sets, .slice bi A.init.length di, .slice bn A.nodes.length dn], .int .i64 m] w (Whole4 err init s w)) := fun w hb => by
    have := rwhole_any w ⟨ai, ae, al, as_, bi, bn, ci, ce, cl, cs, di, dn⟩ G sets A m ⟨h.g.below hb, h.s.below hb, h.au.below hb, h.ok, h.aok⟩ lt
    rw [← hP] at this
    exact this
  rw [← hP] at z1 z2 z3 z4 z5 z6
  simp only at z1 z2 z3 z4 z5 z6
  obtain ⟨ni, hni⟩ : ∃ n, n = init.length := ⟨_, rfl⟩
  obtain ⟨ne, hne⟩ : ∃ n, n = s.es.length := ⟨_, rfl⟩
  obtain ⟨nl, hnl⟩ : ∃ n, n = s.labs.length := ⟨_, rfl⟩
  obtain ⟨nq, hnq⟩ : ∃ n, n = s.l.length := ⟨_, rfl⟩
  obtain ⟨nb, hnb⟩ : ∃ n, n = s.ins.length := ⟨_, rfl⟩
  have i1 : (ni : Int) ≤ 1000000 := by omega
  have i2 : (ne : Int) ≤ 1000000 := by omega
  have i3 : (nl : Int) ≤ 1000000 := by omega
  have i4 : (nb : Int) ≤ 1000000 := by omega
  have GS : Hid (∀ w Y Z, Reads w Y init s → Reads w Z init s → Calls Try.prog 25 #[.agg #[.slice Y.ia ni Y.ic, .slice Y.ea ne Y.ec, .slice Y.la nl Y.lc], .agg #[.slice Z.ia ni Z.ic, .slice Z.ea ne Z.ec, .slice Z.la nl Z.lc]] w fun e w' => e = .returned (.bool true) ∧ Below w.heap.size w w') := fun w Y Z hy hz => gsame_yes w _ _ _ _ _ _ _ _ _ _ _ _ init s.es s.labs ni ne nl hni hne hnl hy.1 hy.2.1 hy.2.2.1 hz.1 hz.2.1 hz.2.2.1 i1 i2 i3 z6
  have SM : Hid (∀ w Y Z, Reads w Y init s → Reads w Z init s → Calls Try.prog 19 #[.slice Y.qa nq Y.qc, .slice Z.qa nq Z.qc] w fun e w' => e = .returned (.bool true) ∧ Below w.heap.size w w') := fun w Y Z hy hz => by
    rw [hnq]
    exact same_yes w _ _ _ _ s.l hy.2.2.2.1 hz.2.2.2.1 z5
  have B2 : Hid (Box2 W ⟨ai, ae, al, as_, bi, bn, ci, ce, cl, cs, di, dn⟩ G A ((W.alloc (.cells #[.slice ai G.init.length ci, .slice ae G.edges.length ce, .slice al G.labels.length cl] TG)).alloc (.cells #[.int .i64 A.sets, .slice bi A.init.length di, .slice bn A.nodes.length dn] TA))) := Box2.start W ⟨ai, ae, al, as_, bi, bn, ci, ce, cl, cs, di, dn⟩ G A
  have CB : Hid (∀ w, Box2 W ⟨ai, ae, al, as_, bi, bn, ci, ce, cl, cs, di, dn⟩ G A w → w.cell? ⟨W.heap.size, 0, none⟩ = some (.slice ai G.init.length ci) ∧ w.cell? ⟨W.heap.size, 1, none⟩ = some (.slice ae G.edges.length ce) ∧ w.cell? ⟨W.heap.size, 2, none⟩ = some (.slice al G.labels.length cl) ∧ w.cell? ⟨W.heap.size + 1, 0, none⟩ = some (.int .i64 A.sets) ∧ w.cell? ⟨W.heap.size + 1, 1, none⟩ = some (.slice bi A.init.length di) ∧ w.cell? ⟨W.heap.size + 1, 2, none⟩ = some (.slice bn A.nodes.length dn)) := fun w hB => ⟨hB.rg.cell 0, hB.rg.cell 1, hB.rg.cell 2, hB.ra.cell 0, hB.ra.cell 1, hB.ra.cell 2⟩
  have XX : Hid (∀ w e w', Whole4 err init s w e w' → ∃ Y : WX, e = .returned (.tuple #[.agg #[.slice Y.ia ni Y.ic, .slice Y.ea ne Y.ec, .slice Y.la nl Y.lc], .slice Y.qa nq Y.qc, .slice Y.ba nb Y.bc, .int .i64 err]) ∧ ReadsB w.heap.size w' Y init s ∧ Below w.heap.size w w') := fun w e w' h => by
    rw [hni, hne, hnl, hnq, hnb]
    exact h.x
  replace hni := Lib.hid hni
  replace hne := Lib.hid hne
  replace hnl := Lib.hid hnl
  replace hnq := Lib.hid hnq
  replace hnb := Lib.hid hnb
  replace hP := Lib.hid hP
  clear h hl lt z1 z2 z3 z4 z5 z6 i1 i2 i3
  go_enter Try.func5, Try.ntmps5
  go_wp2_with fail
  generalize ((W.alloc (.cells #[.slice ai G.init.length ci, .slice ae G.edges.length ce, .slice al G.labels.length cl] TG)).alloc (.cells #[.int .i64 A.sets, .slice bi A.init.length di, .slice bn A.nodes.length dn] TA)) = w2 at B2 ⊢
  refine (LI.out _ B2.out.below).mono ?_
  rintro e w3 ⟨rfl, hb3⟩
  have B3 := Lib.hid (B2.out.next hb3)
  clear hb3 LI B2
  obtain ⟨g0, g1, g2, a0, a1, a2⟩ := CB.out w3 B3.out
  have h1l : W.heap.size < w3.heap.size := B3.out.rg.lt
  have h2l : W.heap.size + 1 < w3.heap.size := B3.out.ra.lt
  have hZ : Hid (∀ (w w' : World), Below (w.alloc gzc).heap.size (w.alloc gzc) w' → RowAt w' w.heap.size TG gz) := fun w w' hb => (RowAt.new #[_, _, _] rfl).below hb
  go_upto_region 3 with (fail)
  go_cut [9, 10, 11, 12] (fun gv_ qv bv ev wx => ∃ (z : Nat) (Y : WX), gv_ = .pointer (some ⟨z, 0, none⟩) ∧ qv = .slice Y.qa nq Y.qc ∧ bv = .slice Y.ba nb Y.bc ∧ ev = .int .i64 err ∧ Hid (RowAt wx z TG [.slice Y.ia ni Y.ic, .slice Y.ea ne Y.ec, .slice Y.la nl Y.lc]) ∧ Hid (ReadsB w3.heap.size wx Y init s) ∧ Hid (Below w3.heap.size w3 wx))
  case first =>
    go_region_held3 (fun w' => w'.cell? ⟨W.heap.size, 0, none⟩ = some (.slice ai G.init.length ci) ∧ w'.cell? ⟨W.heap.size, 1, none⟩ = some (.slice ae G.edges.length ce) ∧ w'.cell? ⟨W.heap.size, 2, none⟩ = some (.slice al G.labels.length cl) ∧ w'.cell? ⟨W.heap.size + 1, 0, none⟩ = some (.int .i64 A.sets) ∧ w'.cell? ⟨W.heap.size + 1, 1, none⟩ = some (.slice bi A.init.length di) ∧ w'.cell? ⟨W.heap.size + 1, 2, none⟩ = some (.slice bn A.nodes.length dn)) (first | exact CB.out _ (B3.out.next (set3_below (btrans K1 hb5) K1.size)) | exact CB.out _ (B3.out.next (set3_below (btrans K1 hb5) (Nat.le_refl _))) | exact CB.out _ (B3.out.next (set3_below (btrans KA hb5) K1.size)) | exact CB.out _ (B3.out.next (balloc (btrans K1 hb5) _)) | exact CB.out _ (B3.out.next (btrans K1 hb5)) | exact CB.out _ (B3.out.next (btrans KA hb5)) | exact CB.out _ (B3.out.next (balloc K1 _)) | exact CB.out _ (B3.out.next K1) | exact CB.out _ (B3.out.next (balloc (Below.refl _ _) _).drew) | exact CB.out _ B3.out | exact CB.out _ (B3.out.next (Below.refl _ _).drew)) (first
      | (go_at_call 23; (with_reducible refine (WH.out _ (btrans B3.out.below KA) v (hsv.out.below (balloc (Below.refl _ _) _))).mono ?_); rintro e w5 h5; replace h5 := Lib.hid h5; obtain ⟨Y, rfl, hr5, hb5⟩ := XX.out _ _ _ h5.out; have rz := hZ.out w4 w5 hb5; have z0 : w5.cell? ⟨w4.heap.size, 0, none⟩ = some (.slice none 0 0) := rz.cell 0; have z1 : w5.cell? ⟨w4.heap.size, 1, none⟩ = some (.slice none 0 0) := rz.cell 1; have z2 : w5.cell? ⟨w4.heap.size, 2, none⟩ = some (.slice none 0 0) := rz.cell 2; have fz0 : w5.frozen? ⟨w4.heap.size, 0, none⟩ = false := rz.free 0; have fz1 : w5.frozen? ⟨w4.heap.size, 1, none⟩ = false := rz.free 1; have fz2 : w5.frozen? ⟨w4.heap.size, 2, none⟩ = false := rz.free 2; replace rz := Lib.hid rz)
      | (go_at_call 23; have tok := KZ; (with_reducible refine (WH.out _ (btrans B3.out.below K1) v hsv.out).mono ?_); rintro e w5 h5; replace h5 := Lib.hid h5; obtain ⟨Y, rfl, hr5, hb5⟩ := XX.out _ _ _ h5.out; have rz := (hZ.out w3 w4 KZ).below hb5; have z0 : w5.cell? ⟨w3.heap.size, 0, none⟩ = some (.slice none 0 0) := rz.cell 0; have z1 : w5.cell? ⟨w3.heap.size, 1, none⟩ = some (.slice none 0 0) := rz.cell 1; have z2 : w5.cell? ⟨w3.heap.size, 2, none⟩ = some (.slice none 0 0) := rz.cell 2; have fz0 : w5.frozen? ⟨w3.heap.size, 0, none⟩ = false := rz.free 0; have fz1 : w5.frozen? ⟨w3.heap.size, 1, none⟩ = false := rz.free 1; have fz2 : w5.frozen? ⟨w3.heap.size, 2, none⟩ = false := rz.free 2; replace rz := Lib.hid rz)
      | (go_at_call 23; (with_reducible refine (WH.out _ (btrans B3.out.below K1) v hsv.out).mono ?_); rintro e w5 h5; replace h5 := Lib.hid h5; obtain ⟨Y, rfl, hr5, hb5⟩ := XX.out _ _ _ h5.out)
      | (go_at_call 10; (with_reducible refine (GR_.out _ (balloc B3.out.below _).drew).mono ?_); rintro e w4 h4; have hb4 := h4.1; replace h4 := Lib.hid h4; obtain ⟨v, rfl, hsv⟩ := h4.out.v; replace hsv := Lib.hid hsv; have KZ : Below (w3.alloc gzc).heap.size (w3.alloc gzc) w4 := ⟨hb4.os, hb4.tape, hb4.output, hb4.size, hb4.block⟩; have K1 : Below w3.heap.size w3 w4 := btrans (balloc (Below.refl _ _) _) KZ; obtain ⟨g0', g1', g2', a0', a1', a2'⟩ := CB.out w4 (B3.out.next K1))
      | (go_at_call 10; (with_reducible refine (GR_.out _ B3.out.below.drew).mono ?_); rintro e w4 h4; have hb4 := h4.1; replace h4 := Lib.hid h4; obtain ⟨v, rfl, hsv⟩ := h4.out.v; replace hsv := Lib.hid hsv; have K1 : Below w3.heap.size w3 w4 := ⟨hb4.os, hb4.tape, hb4.output, hb4.size, hb4.block⟩; obtain ⟨g0', g1', g2', a0', a1', a2'⟩ := CB.out w4 (B3.out.next K1); have KA : Below w3.heap.size w3 (w4.alloc gzc) := balloc K1 _; have h1l4 : W.heap.size < w4.heap.size := (by have := K1.size; omega); have h2l4 : W.heap.size + 1 < w4.heap.size := (by have := K1.size; omega)))
    all_goals (
      go_wp2_with fail
      go_meet
      first
        | exact ⟨w5.heap.size, Y, rfl, rfl, rfl, rfl, RowAt.new #[_, _, _] rfl, (hr5.below (balloc (Below.refl _ _) _)).keeps (Keeps.refl _ _) K1.size, balloc (btrans K1 hb5) _⟩
        | exact ⟨w4.heap.size, Y, rfl, rfl, rfl, rfl, ((rz.out.set 0 _).set 1 _).set 2 _, law_a hr5 K1.size, law_b (btrans KA hb5) K1.size⟩
        | exact ⟨w3.heap.size, Y, rfl, rfl, rfl, rfl, ((rz.out.set 0 _).set 1 _).set 2 _, law_c hr5 KZ, law_b (btrans K1 hb5) (Nat.le_refl _)⟩)
  case rest =>
    obtain ⟨z, Y, rfl, rfl, rfl, rfl, hrz, hRd, hbc⟩ := hcut
    have B4 := Lib.hid (B3.out.next hbc.out)
    clear g0 g1 g2 a0 a1 a2 hZ GR_ WH hbc
    obtain ⟨g0, g1, g2, a0, a1, a2⟩ := CB.out wc B4.out
    go_wp2_with fail
    refine (RW.out _ B4.out.below).mono ?_
    rintro e w6 h6
    replace h6 := Lib.hid h6
    obtain ⟨Q, rfl, hr6, hb6⟩ := XX.out _ _ _ h6.out
    have hA6 : Below w6.heap.size w6 (w6.alloc (.cells #[.slice Q.ia ni Q.ic, .slice Q.ea ne Q.ec, .slice Q.la nl Q.lc] TG)) := balloc (Below.refl _ _) _
    have rq7 : Hid (RowAt (w6.alloc (.cells #[.slice Q.ia ni Q.ic, .slice Q.ea ne Q.ec, .slice Q.la nl Q.lc] TG)) w6.heap.size TG [.slice Q.ia ni Q.ic, .slice Q.ea ne Q.ec, .slice Q.la nl Q.lc]) := RowAt.new #[_, _, _] rfl
    have hR7 := Lib.hid (hr6.below hA6)
    have hY7 := Lib.hid (hRd.out.below (btrans hb6 hA6))
    have rz7 := hrz.out.below (btrans hb6 hA6)
    have hb7 := Lib.hid (btrans B4.out.below (btrans hb6 hA6))
    clear g0 g1 g2 a0 a1 a2 h6 hr6 hb6 hA6 hRd hrz
    have u0 := rz7.cell 0
    have u1 := rz7.cell 1
    have u2 := rz7.cell 2
    simp only [List.getElem?_cons_zero, List.getElem?_cons_succ] at u0 u1 u2
    replace rz7 := Lib.hid rz7
    have ne0 : ((err : Int) != err) = false := by simp
    have nb0 : ((nb : Int) != (nb : Int)) = false := by simp
    go_wp2_with fail
    generalize w6.alloc (.cells #[.slice Q.ia ni Q.ic, .slice Q.ea ne Q.ec, .slice Q.la nl Q.lc] TG) = w7 at rq7 hR7 hY7 rz7 hb7 u0 u1 u2 ⊢
    refine (GS.out w7 Y Q hY7.out.at hR7.out.at).mono ?_
    rintro e w8 ⟨rfl, hb8⟩
    go_wp2_with fail
    refine (SM.out w8 Y Q (hY7.out.below hb8).at (hR7.out.below hb8).at).mono ?_
    rintro e w9 ⟨rfl, hb9⟩
    have hTY := Lib.hid ((hY7.out.below hb8).below hb9).at.2.2.2.2
    have hTQ := Lib.hid ((hR7.out.below hb8).below hb9).at.2.2.2.2
    have hbz := Lib.hid (btrans (btrans hb7.out hb8) hb9)
    clear hb8 hb9 u0 u1 u2 hR7 hY7 rz7 rq7 GS SM RW XX CB
    obtain ⟨Yia, Yic, Yea, Yec, Yla, Ylc, Yqa, Yqc, Yba, Ybc, Yra, Yrc⟩ := Y
    obtain ⟨Qia, Qic, Qea, Qec, Qla, Qlc, Qqa, Qqc, Qba, Qbc, Qra, Qrc⟩ := Q
    dsimp only at hTY hTQ ⊢
    go_wp2
    go_loopw [8, 17] (fun bv iv wr => ∃ (k m : Nat), bv = .bool false ∧ k ≤ nb ∧ iv = .int .i64 k ∧ wr = w9.drewN m) (fun _ iv _ => nb - (intOf iv).toNat)
    case atStart => exact ⟨0, 0, rfl, Nat.zero_le _, rfl, rfl⟩
    case round =>
      obtain ⟨k, m, rfl, hk, rfl, rfl⟩ := hrel
      by_cases hkl : k < nb
      · have hk2 : (k : Int) < (nb : Int) := by omega
        have hkL : k < s.ins.length := by have := hnb.out; omega
        obtain ⟨b1, o1, rfl, _, c1⟩ := hTY.out.at k hkL
        obtain ⟨b2, o2, rfl, _, c2⟩ := hTQ.out.at k hkL
        generalize s.ins[k] = bo at c1 c2
        have hbb : (bo != bo) = false := by simp
        go_wp2
        go_quiet (fail)
        go_wp2
        go_roundw
        case rel => exact ⟨k + 1, _, rfl, by omega, by go_num, by first | rfl | exact World.drewN_drewN _ _ _⟩
        case measure => simp [intOf]; omega
      · obtain rfl : k = nb := by omega
        go_wp2_with fail
        refine (awake_true _).mono ?_
        rintro e w10 ⟨rfl, hb10⟩
        go_wp2
        go_ret
        exact ⟨rfl, btrans (bdrewN hbz.out m) hb10⟩
theorem prodWhole_walk (W : World) (c : Array Value) (G : GR) (h : rGR W c.toList G) (v : Value) (sets : List (List Bool)) (hv : rSl 1 24 (rSl 1 1 rBool) W [v] sets) (ca : Array Value) (A : AU) (ha : rAU W ca.toList A) (m : Int) (hm : -9223372036854775808 ≤ m ∧ m ≤ 9223372036854775807) :
    Calls Try.prog 5 #[.agg c, v, .agg ca, .int .i64 m] W fun e w' => e = .returned (.bool true) ∧ Below W.heap.size W w' := by
  obtain ⟨X, rfl, rfl, rfl, L⟩ := LawIn.of h hv ha
  cases hl : lightB G sets A with
  | false => exact whole_dark W X G sets A m L hl
  | true => exact whole_light W X G sets A m L hl
end Go.Proofs.Ytmlbjfaofppikaa
