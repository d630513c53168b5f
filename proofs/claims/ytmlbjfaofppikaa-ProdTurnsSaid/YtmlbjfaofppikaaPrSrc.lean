/- The document's Source: whether a graph with sets is one. Conditions: the bounds of an argument. -/
import Derived.Test.YtmlbjfaofppikaaPrRis
import Derived.Test.YtmlbjfaofppikaaPrChk3
namespace Go.Proofs.Ytmlbjfaofppikaa
open Go.RowKit

theorem take_all {n : Nat} {sets : List (List Bool)} {k : Nat} (hk : k < sets.length) (h : ∀ s ∈ sets.take k, s.length = n) (h1 : sets[k].length = n) : ∀ s ∈ sets.take (k + 1), s.length = n := by
  intro s hs
  rw [List.take_add_one, List.getElem?_eq_getElem hk, Option.toList_some, List.mem_append] at hs
  rcases hs with h2 | h2
  · exact h s h2
  · simp at h2; subst h2; exact h1
set_option maxHeartbeats 2000000 in
theorem rsource_any (w : World) (X : RX) (G : GR) (sets : List (List Bool)) (hG : GAt w X.ai X.ae X.al G) (ok : GOk G) (hS : SetsAt w X.as_ sets) :
    Calls Try.prog 12 #[gv X G, .slice X.as_ sets.length X.cs] w fun e w' => e = .returned (.bool (srcB G sets)) ∧ Below w.heap.size w w' := by
  have r1 := RowAt.new (w := w) (T := TG) #[.slice X.ai G.init.length X.ci, .slice X.ae G.edges.length X.ce, .slice X.al G.labels.length X.cl] rfl
  have hb1 := balloc (Below.refl w.heap.size w) (.cells #[.slice X.ai G.init.length X.ci, .slice X.ae G.edges.length X.ce, .slice X.al G.labels.length X.cl] TG)
  have CK := rgcheck_any _ X.ai X.ae X.al X.ci X.ce X.cl G (hG.below hb1) ok
  obtain ⟨w1, hw1⟩ : ∃ w1, w.alloc (.cells #[.slice X.ai G.init.length X.ci, .slice X.ae G.edges.length X.ce, .slice X.al G.labels.length X.cl] TG) = w1 := ⟨_, rfl⟩
  rw [hw1] at r1 hb1 CK
  have c0 : w1.cell? ⟨w.heap.size, 0, none⟩ = some (.slice X.ai G.init.length X.ci) := r1.cell 0
  have c1 : w1.cell? ⟨w.heap.size, 1, none⟩ = some (.slice X.ae G.edges.length X.ce) := r1.cell 1
  have c2 : w1.cell? ⟨w.heap.size, 2, none⟩ = some (.slice X.al G.labels.length X.cl) := r1.cell 2
  have hsrc : Hid (srcB G sets = (decide (gchk G = 0) && decide (sets.length ≤ 16) && sets.all fun s => decide (s.length = G.edges.length))) := rfl
  rw [hsrc.out]
  replace r1 := Lib.hid r1
  replace hS := Lib.hid (hS.below hb1)
  by_cases hc : gchk G ≠ 0
  · have hcb : (gchk G != 0) = true := by simpa using hc
    rw [decide_eq_false hc, Bool.false_and, Bool.false_and]
    generalize gchk G = why at hcb CK
    replace CK := Lib.hid CK
    clear hc hG ok
    go_enter Try.func12, Try.ntmps12
    go_wp2_with fail
    refine CK.out.mono ?_
    rintro e w2 ⟨rfl, hb2⟩
    go_wp2
    go_ret
    exact ⟨rfl, btrans hb1 hb2⟩
  have hc : gchk G = 0 := by simpa using hc
  rw [hc] at CK ⊢
  rw [decide_eq_true rfl, Bool.true_and]
  replace CK := Lib.hid CK
  by_cases hl : sets.length ≤ 16
  · have hlb : decide (16 < sets.length) = false := by simpa using hl
    rw [decide_eq_true hl, Bool.true_and]
    have hl2 : (sets.length : Int) ≤ 16 := by omega
    obtain ⟨n, hn⟩ : ∃ n, n = G.edges.length := ⟨_, rfl⟩
    rw [← hn]
    replace hn := Lib.hid hn
    go_enter Try.func12, Try.ntmps12
    go_wp2_with fail
    refine CK.out.mono ?_
    rintro e w2 ⟨rfl, hb2⟩
    have r2 := Lib.hid (r1.out.below hb2)
    have hb3 := Lib.hid (btrans hb1 hb2)
    have hS2 := Lib.hid (hS.out.below hb2)
    have d1 : w2.cell? ⟨w.heap.size, 1, none⟩ = some (.slice X.ae n X.ce) := by have := r2.out.cell 1; rw [← hn.out] at this; exact this
    clear hb2 c0 c1 c2 hb1 hw1 hG ok hl hc CK r1 hS
    go_wp2
    go_loopw [4, 5] (fun bv iv wr => ∃ k m : Nat, bv = .bool false ∧ k ≤ sets.length ∧ iv = .int .i64 k ∧ wr = w2.drewN m ∧ Hid (∀ s ∈ sets.take k, s.length = n)) (fun _ iv _ => sets.length - (intOf iv).toNat)
    case atStart => exact ⟨0, 0, rfl, Nat.zero_le _, rfl, rfl, fun s hs => by simp at hs⟩
    case round =>
      obtain ⟨k, m, rfl, hk, rfl, rfl, hs⟩ := hrel
      by_cases hlt : k < sets.length
      · obtain ⟨bs, os, a2, c2, has, _, cr, _⟩ := hS2.out.at k hlt
        have hyes : Hid (sets[k].length = n → ∀ s ∈ sets.take (k + 1), s.length = n) := take_all hlt hs.out
        have hno : Hid (sets[k].length ≠ n → (sets.all fun s => decide (s.length = n)) = false) := fun hne => by
          rw [List.all_eq_false]
          exact ⟨sets[k], List.getElem_mem hlt, by simpa using hne⟩
        generalize sets[k] = row at cr hyes hno
        have hk2 : (k : Int) < (sets.length : Int) := by omega
        obtain ⟨ai, ae, al, as_, bi, bn, ci, ce, cl, cs, di, dn⟩ := X
        dsimp only at has d1 ⊢
        subst has
        by_cases he : row.length = n
        · have heb : ((row.length : Int) != (n : Int)) = false := by simp; omega
          have hs2 := Lib.hid (hyes.out he)
          clear hyes hno he hs
          go_wp2
          go_quiet (fail)
          go_wp2
          go_roundw
          case rel => exact ⟨k + 1, _, rfl, by omega, by go_num, by first | rfl | exact World.drewN_drewN _ _ _, hs2.out⟩
          case measure => simp [intOf]; omega
        · have heb : ((row.length : Int) != (n : Int)) = true := by simp; omega
          have hr := Lib.hid (hno.out he)
          clear hyes hno he hs
          go_wp2
          go_quiet (fail)
          go_wp2
          go_ret
          rw [hr.out]
          exact ⟨rfl, by first | exact bdrewN hb3.out _ | (rw [World.drewN_drewN]; exact bdrewN hb3.out _)⟩
      · obtain rfl : k = sets.length := by omega
        rw [List.take_length] at hs
        have hr : Hid ((sets.all fun s => decide (s.length = n)) = true) := by
          show _ = _
          rw [List.all_eq_true]
          intro s hs'
          simpa using hs.out s hs'
        go_wp2
        go_ret
        rw [hr.out]
        exact ⟨rfl, bdrewN hb3.out _⟩
  · have hl2 : 16 < (sets.length : Int) := by omega
    rw [decide_eq_false hl, Bool.false_and]
    clear hG ok hc
    go_enter Try.func12, Try.ntmps12
    go_wp2_with fail
    refine CK.out.mono ?_
    rintro e w2 ⟨rfl, hb2⟩
    go_wp2
    go_ret
    exact ⟨rfl, btrans hb1 hb2⟩
end Go.Proofs.Ytmlbjfaofppikaa
