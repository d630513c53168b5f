/- The document's New. Conditions: the bounds of an argument. -/
import Derived.Test.YtmlbjfaofppikaaPrRnext
import Derived.Test.YtmlbjfaofppikaaAutoChk3
namespace Go.Proofs.Ytmlbjfaofppikaa
open Go.RowKit

abbrev rz : List Value := [.slice none 0 0, .slice none 0 0, .slice none 0 0, .slice none 0 0, .int .i64 0, .slice none 0 0, .slice none 0 0]
set_option maxHeartbeats 4000000 in
theorem rnew_any (w : World) (X : RX) (G : GR) (sets : List (List Bool)) (A : AU) (hG : GAt w X.ai X.ae X.al G) (ok : GOk G) (hS : SetsAt w X.as_ sets) (hA : AuAt w X.bi A.init.length X.bn A.nodes.length A) (aok : AuOk A) :
    Calls Try.prog 11 #[gv X G, .slice X.as_ sets.length X.cs, av X A] w fun e w' => e = .returned (.tuple #[if newB G sets A = true then rpv X G sets A else .agg rz.toArray, .bool (newB G sets A)]) ∧ Below w.heap.size w w' := by
  have rg := RowAt.new (w := w) (T := TG) #[.slice X.ai G.init.length X.ci, .slice X.ae G.edges.length X.ce, .slice X.al G.labels.length X.cl] rfl
  have hz1 : (w.alloc (.cells #[.slice X.ai G.init.length X.ci, .slice X.ae G.edges.length X.ce, .slice X.al G.labels.length X.cl] TG)).heap.size = w.heap.size + 1 := by simp
  have ra := RowAt.new (w := w.alloc (.cells #[.slice X.ai G.init.length X.ci, .slice X.ae G.edges.length X.ce, .slice X.al G.labels.length X.cl] TG)) (T := 30) #[.int .i64 A.sets, .slice X.bi A.init.length X.di, .slice X.bn A.nodes.length X.dn] rfl
  have hz2 : ((w.alloc (.cells #[.slice X.ai G.init.length X.ci, .slice X.ae G.edges.length X.ce, .slice X.al G.labels.length X.cl] TG)).alloc (.cells #[.int .i64 A.sets, .slice X.bi A.init.length X.di, .slice X.bn A.nodes.length X.dn] 30)).heap.size = w.heap.size + 1 + 1 := by simp
  have rr := RowAt.new (w := (w.alloc (.cells #[.slice X.ai G.init.length X.ci, .slice X.ae G.edges.length X.ce, .slice X.al G.labels.length X.cl] TG)).alloc (.cells #[.int .i64 A.sets, .slice X.bi A.init.length X.di, .slice X.bn A.nodes.length X.dn] 30)) (T := TRP) rz.toArray rfl
  have rg' := (rg.alloc (.cells #[.int .i64 A.sets, .slice X.bi A.init.length X.di, .slice X.bn A.nodes.length X.dn] 30)).alloc (.cells rz.toArray TRP)
  have ra' := ra.alloc (.cells rz.toArray TRP)
  rw [hz1] at ra'
  rw [hz2] at rr
  have hb3 := balloc (balloc (balloc (Below.refl w.heap.size w) (.cells #[.slice X.ai G.init.length X.ci, .slice X.ae G.edges.length X.ce, .slice X.al G.labels.length X.cl] TG)) (.cells #[.int .i64 A.sets, .slice X.bi A.init.length X.di, .slice X.bn A.nodes.length X.dn] 30)) (.cells rz.toArray TRP)
  obtain ⟨w3, hw3⟩ : ∃ w3, ((w.alloc (.cells #[.slice X.ai G.init.length X.ci, .slice X.ae G.edges.length X.ce, .slice X.al G.labels.length X.cl] TG)).alloc (.cells #[.int .i64 A.sets, .slice X.bi A.init.length X.di, .slice X.bn A.nodes.length X.dn] 30)).alloc (.cells rz.toArray TRP) = w3 := ⟨_, rfl⟩
  rw [hw3] at rg' ra' rr hb3
  have SR := fun wr (hb : Below w.heap.size w wr) => rsource_any wr X G sets (hG.below hb) ok (hS.below hb)
  have CR := fun wr (hb : Below w.heap.size w wr) => rcheck_any wr X.bi X.bn X.di X.dn A (hA.below hb) aok
  have hz : newB G sets A = (srcB G sets && decide (chk A = 0)) := rfl
  rw [hz]
  generalize srcB G sets = s at SR ⊢
  generalize chk A = c at CR ⊢
  replace SR := Lib.hid SR
  replace CR := Lib.hid CR
  have CC : Hid (∀ wr, Below w3.heap.size w3 wr → RowAt wr w.heap.size TG [.slice X.ai G.init.length X.ci, .slice X.ae G.edges.length X.ce, .slice X.al G.labels.length X.cl] ∧ RowAt wr (w.heap.size + 1) 30 [.int .i64 A.sets, .slice X.bi A.init.length X.di, .slice X.bn A.nodes.length X.dn] ∧ RowAt wr (w.heap.size + 1 + 1) TRP rz) := fun wr hb => ⟨rg'.below hb, ra'.below hb, rr.below hb⟩
  have g0 : w3.cell? ⟨w.heap.size, 0, none⟩ = some (.slice X.ai G.init.length X.ci) := rg'.cell 0
  have g1 : w3.cell? ⟨w.heap.size, 1, none⟩ = some (.slice X.ae G.edges.length X.ce) := rg'.cell 1
  have g2 : w3.cell? ⟨w.heap.size, 2, none⟩ = some (.slice X.al G.labels.length X.cl) := rg'.cell 2
  replace hb3 := Lib.hid hb3
  obtain ⟨b, hb⟩ : ∃ b, b = (s && decide (c = 0)) := ⟨_, rfl⟩
  rw [← hb]
  replace hb := Lib.hid hb
  obtain ⟨V, hV⟩ : ∃ V, V = (if b = true then rpv X G sets A else .agg rz.toArray) := ⟨_, rfl⟩
  rw [← hV]
  replace hV := Lib.hid hV
  clear hG ok hS hA aok rg ra rr rg' ra' hz1 hz2 hz
  go_enter Try.func11, Try.ntmps11
  go_wp2_with fail
  refine (SR.out w3 hb3.out).mono ?_
  rintro e w4 ⟨rfl, hb4⟩
  clear g0 g1 g2 hw3
  obtain ⟨r0, r1, r2⟩ := CC.out w4 hb4
  replace r0 := Lib.hid r0
  replace r1 := Lib.hid r1
  replace r2 := Lib.hid r2
  have hb4' := Lib.hid (btrans hb3.out hb4)
  cases s with
  | false =>
    have hbv : Hid (b = false) := by show _ = _; rw [hb.out]; rfl
    have u0 : w4.cell? ⟨w.heap.size + 1 + 1, 0, none⟩ = some (.slice none 0 0) := r2.out.cell 0
    have vu0 : w4.frozen? ⟨w.heap.size + 1 + 1, 0, none⟩ = false := r2.out.free 0
    have u1 : w4.cell? ⟨w.heap.size + 1 + 1, 1, none⟩ = some (.slice none 0 0) := r2.out.cell 1
    have vu1 : w4.frozen? ⟨w.heap.size + 1 + 1, 1, none⟩ = false := r2.out.free 1
    have u2 : w4.cell? ⟨w.heap.size + 1 + 1, 2, none⟩ = some (.slice none 0 0) := r2.out.cell 2
    have vu2 : w4.frozen? ⟨w.heap.size + 1 + 1, 2, none⟩ = false := r2.out.free 2
    have u3 : w4.cell? ⟨w.heap.size + 1 + 1, 3, none⟩ = some (.slice none 0 0) := r2.out.cell 3
    have vu3 : w4.frozen? ⟨w.heap.size + 1 + 1, 3, none⟩ = false := r2.out.free 3
    have u4 : w4.cell? ⟨w.heap.size + 1 + 1, 4, none⟩ = some (.int .i64 0) := r2.out.cell 4
    have vu4 : w4.frozen? ⟨w.heap.size + 1 + 1, 4, none⟩ = false := r2.out.free 4
    have u5 : w4.cell? ⟨w.heap.size + 1 + 1, 5, none⟩ = some (.slice none 0 0) := r2.out.cell 5
    have vu5 : w4.frozen? ⟨w.heap.size + 1 + 1, 5, none⟩ = false := r2.out.free 5
    have u6 : w4.cell? ⟨w.heap.size + 1 + 1, 6, none⟩ = some (.slice none 0 0) := r2.out.cell 6
    have vu6 : w4.frozen? ⟨w.heap.size + 1 + 1, 6, none⟩ = false := r2.out.free 6
    go_wp2
    have rE := Lib.hid (((((((r2.out.set 0 (.slice none 0 0)).set 1 (.slice none 0 0)).set 2 (.slice none 0 0)).set 3 (.slice none 0 0)).set 4 (.int .i64 0)).set 5 (.slice none 0 0)).set 6 (.slice none 0 0))
    have k0 := rE.out.cell 0
    have k1 := rE.out.cell 1
    have k2 := rE.out.cell 2
    have k3 := rE.out.cell 3
    have k4 := rE.out.cell 4
    have k5 := rE.out.cell 5
    have k6 := rE.out.cell 6
    refine bodyPost_ret (v := .tuple #[.agg #[.slice none 0 0, .slice none 0 0, .slice none 0 0, .slice none 0 0, .int .i64 0, .slice none 0 0, .slice none 0 0], .bool false]) (by simp [results, Try.results11, go_sem, k0, k1, k2, k3, k4, k5, k6]) rfl ⟨by rw [hV.out, hbv.out]; rfl, (bsetN (bsetN (bsetN (bsetN (bsetN (bsetN (bsetN hb4'.out (by omega)) (by omega)) (by omega)) (by omega)) (by omega)) (by omega)) (by omega))⟩
  | true =>
    have a0 : w4.cell? ⟨w.heap.size + 1, 0, none⟩ = some (.int .i64 A.sets) := r1.out.cell 0
    have a1 : w4.cell? ⟨w.heap.size + 1, 1, none⟩ = some (.slice X.bi A.init.length X.di) := r1.out.cell 1
    have a2 : w4.cell? ⟨w.heap.size + 1, 2, none⟩ = some (.slice X.bn A.nodes.length X.dn) := r1.out.cell 2
    go_wp2_with fail
    refine (CR.out w4 hb4'.out).mono ?_
    rintro e w5 ⟨rfl, hb5⟩
    clear a0 a1 a2
    have hb5' := Lib.hid (btrans hb4'.out hb5)
    have q0 := Lib.hid (r0.out.below hb5)
    have q1 := Lib.hid (r1.out.below hb5)
    have q2 := Lib.hid (r2.out.below hb5)
    have u0 : w5.cell? ⟨w.heap.size + 1 + 1, 0, none⟩ = some (.slice none 0 0) := q2.out.cell 0
    have vu0 : w5.frozen? ⟨w.heap.size + 1 + 1, 0, none⟩ = false := q2.out.free 0
    have u1 : w5.cell? ⟨w.heap.size + 1 + 1, 1, none⟩ = some (.slice none 0 0) := q2.out.cell 1
    have vu1 : w5.frozen? ⟨w.heap.size + 1 + 1, 1, none⟩ = false := q2.out.free 1
    have u2 : w5.cell? ⟨w.heap.size + 1 + 1, 2, none⟩ = some (.slice none 0 0) := q2.out.cell 2
    have vu2 : w5.frozen? ⟨w.heap.size + 1 + 1, 2, none⟩ = false := q2.out.free 2
    have u3 : w5.cell? ⟨w.heap.size + 1 + 1, 3, none⟩ = some (.slice none 0 0) := q2.out.cell 3
    have vu3 : w5.frozen? ⟨w.heap.size + 1 + 1, 3, none⟩ = false := q2.out.free 3
    have u4 : w5.cell? ⟨w.heap.size + 1 + 1, 4, none⟩ = some (.int .i64 0) := q2.out.cell 4
    have vu4 : w5.frozen? ⟨w.heap.size + 1 + 1, 4, none⟩ = false := q2.out.free 4
    have u5 : w5.cell? ⟨w.heap.size + 1 + 1, 5, none⟩ = some (.slice none 0 0) := q2.out.cell 5
    have vu5 : w5.frozen? ⟨w.heap.size + 1 + 1, 5, none⟩ = false := q2.out.free 5
    have u6 : w5.cell? ⟨w.heap.size + 1 + 1, 6, none⟩ = some (.slice none 0 0) := q2.out.cell 6
    have vu6 : w5.frozen? ⟨w.heap.size + 1 + 1, 6, none⟩ = false := q2.out.free 6
    by_cases hc : c = 0
    · have hbv : Hid (b = true) := by show _ = _; rw [hb.out, decide_eq_true hc]; rfl
      have hcb : (c != 0) = false := by simpa using hc
      have g0 : w5.cell? ⟨w.heap.size, 0, none⟩ = some (.slice X.ai G.init.length X.ci) := q0.out.cell 0
      have g1 : w5.cell? ⟨w.heap.size, 1, none⟩ = some (.slice X.ae G.edges.length X.ce) := q0.out.cell 1
      have g2 : w5.cell? ⟨w.heap.size, 2, none⟩ = some (.slice X.al G.labels.length X.cl) := q0.out.cell 2
      have a0 : w5.cell? ⟨w.heap.size + 1, 0, none⟩ = some (.int .i64 A.sets) := q1.out.cell 0
      have a1 : w5.cell? ⟨w.heap.size + 1, 1, none⟩ = some (.slice X.bi A.init.length X.di) := q1.out.cell 1
      have a2 : w5.cell? ⟨w.heap.size + 1, 2, none⟩ = some (.slice X.bn A.nodes.length X.dn) := q1.out.cell 2
      clear hc
      go_wp2
      have rE := Lib.hid (((((((q2.out.set 0 (.slice X.ai G.init.length X.ci)).set 1 (.slice X.ae G.edges.length X.ce)).set 2 (.slice X.al G.labels.length X.cl)).set 3 (.slice X.as_ sets.length X.cs)).set 4 (.int .i64 A.sets)).set 5 (.slice X.bi A.init.length X.di)).set 6 (.slice X.bn A.nodes.length X.dn))
      have k0 := rE.out.cell 0
      have k1 := rE.out.cell 1
      have k2 := rE.out.cell 2
      have k3 := rE.out.cell 3
      have k4 := rE.out.cell 4
      have k5 := rE.out.cell 5
      have k6 := rE.out.cell 6
      refine bodyPost_ret (v := .tuple #[.agg #[.slice X.ai G.init.length X.ci, .slice X.ae G.edges.length X.ce, .slice X.al G.labels.length X.cl, .slice X.as_ sets.length X.cs, .int .i64 A.sets, .slice X.bi A.init.length X.di, .slice X.bn A.nodes.length X.dn], .bool true]) (by simp [results, Try.results11, go_sem, k0, k1, k2, k3, k4, k5, k6]) rfl ⟨by rw [hV.out, hbv.out]; rfl, (bsetN (bsetN (bsetN (bsetN (bsetN (bsetN (bsetN hb5'.out (by omega)) (by omega)) (by omega)) (by omega)) (by omega)) (by omega)) (by omega))⟩
    · have hbv : Hid (b = false) := by show _ = _; rw [hb.out, decide_eq_false hc]; rfl
      have hcb : (c != 0) = true := by simpa using hc
      clear hc
      go_wp2
      have rE := Lib.hid (((((((q2.out.set 0 (.slice none 0 0)).set 1 (.slice none 0 0)).set 2 (.slice none 0 0)).set 3 (.slice none 0 0)).set 4 (.int .i64 0)).set 5 (.slice none 0 0)).set 6 (.slice none 0 0))
      have k0 := rE.out.cell 0
      have k1 := rE.out.cell 1
      have k2 := rE.out.cell 2
      have k3 := rE.out.cell 3
      have k4 := rE.out.cell 4
      have k5 := rE.out.cell 5
      have k6 := rE.out.cell 6
      refine bodyPost_ret (v := .tuple #[.agg #[.slice none 0 0, .slice none 0 0, .slice none 0 0, .slice none 0 0, .int .i64 0, .slice none 0 0, .slice none 0 0], .bool false]) (by simp [results, Try.results11, go_sem, k0, k1, k2, k3, k4, k5, k6]) rfl ⟨by rw [hV.out, hbv.out]; rfl, (bsetN (bsetN (bsetN (bsetN (bsetN (bsetN (bsetN hb5'.out (by omega)) (by omega)) (by omega)) (by omega)) (by omega)) (by omega)) (by omega))⟩
end Go.Proofs.Ytmlbjfaofppikaa
