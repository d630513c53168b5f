/- The walk of layer degen's law on words. No conditions but the form's reach. -/
import Derived.Test.YtefplklkhcpchaaTakes
import Derived.Test.YtefplklkhcpchaaDegWordsLink
import Derived.Test.YtefplklkhcpchaaDegLives
namespace Go.Proofs.Ytefplklkhcpchaa
open Go.RowKit

theorem takes_any (W : World) (ai an : Option Addr) (ci cn : Nat) (A : AU) (h : AuAt W ai A.init.length an A.nodes.length A) (ok : AuOk A) (hc : chk A = 0) (hil : A.init.length ≤ 2000) (hto : ∀ x ∈ A.nodes, x.to.length ≤ 2000)
    (as_ al : Option Addr) (cs cl : Nat) (w : WD) (hw : WordAt W as_ al w) (okw : WordOk w) :
    Calls Try.prog 13 #[.agg #[.int .i64 A.sets, .slice ai A.init.length ci, .slice an A.nodes.length cn], WV as_ w.stem.length cs al w.loop.length cl] W (GivesTk W A w) := by
  by_cases h0 : w.loop.length = 0
  · exact takes_no W ai an ci cn A h ok hc as_ al cs cl w okw.len h0
  · exact takes_yes W ai an ci cn A h ok hc hil hto as_ al cs cl w hw okw (by omega)
theorem far_noW {A : AU} (h : farB A = false) : A.init.length ≤ 1500 ∧ ∀ x ∈ A.nodes, x.to.length ≤ 1500 := by
  unfold farB at h
  simp only [Bool.or_eq_false_iff, decide_eq_false_iff_not] at h
  obtain ⟨h1, h2⟩ := h
  exact ⟨by omega, fun x hx => by have := sumTo_mem x hx; omega⟩
theorem one_bad {A : AU} (h : (oneP A).1 ≠ 0) : (oneP A).2 = ⟨0, [], []⟩ := by
  unfold oneP at h ⊢
  by_cases hc : chk A ≠ 0
  · rw [if_pos hc]
  · rw [if_neg hc] at h ⊢
    cases hl : loopP A 258 0 (rowP 0 A.init ([], [])).1 [] with
    | none => rfl
    | some ns =>
      rw [hl] at h
      exact absurd rfl h
theorem iff_eq {a b : Bool} {P Q : Prop} (h : a = true ↔ P) (k : b = true ↔ Q) (hpq : P ↔ Q) : a = b := by
  cases a <;> cases b <;> simp_all
set_option maxRecDepth 10000 in
set_option maxHeartbeats 4000000 in
theorem degenWords_walk (W : World) (c : Array Value) (A : AU) (h : rAU W c.toList A) (c' : Array Value) (w : WD) (h' : rWD W c'.toList w) :
    Calls Try.prog 4 #[.agg c, .agg c'] W fun e w' => e = .returned (.bool true) ∧ Below W.heap.size W w' := by
  obtain ⟨ai, ci, an, cn, hcs, hA, ok, _, _⟩ := AuAt.of_rAU h
  obtain rfl : c = #[.int .i64 A.sets, .slice ai A.init.length ci, .slice an A.nodes.length cn] := by
    cases c; simpa using hcs
  obtain ⟨as_, cs, al, cl, hcs', hw, hw1, hw2, hw3, hw4⟩ := WordAt.of_rWD h'
  obtain rfl : c' = #[.slice as_ w.stem.length cs, .slice al w.loop.length cl] := by
    cases c'; simpa using hcs'
  clear h hcs h' hcs'
  obtain ⟨w0, hw0⟩ : ∃ w0, w0 = (W.alloc (.cells #[.int .i64 A.sets, .slice ai A.init.length ci, .slice an A.nodes.length cn] TA)).alloc (.cells #[.slice as_ w.stem.length cs, .slice al w.loop.length cl] TWd) := ⟨_, rfl⟩
  have hb0 : Below W.heap.size W w0 := by rw [hw0]; exact balloc (balloc (Below.refl _ _) _) _
  have FA := far_any w0 ai an ci cn A (hA.below hb0) ok
  have r1 : RowAt w0 W.heap.size TA [.int .i64 A.sets, .slice ai A.init.length ci, .slice an A.nodes.length cn] := by rw [hw0]; exact (RowAt.new (w := W) #[.int .i64 A.sets, .slice ai A.init.length ci, .slice an A.nodes.length cn] rfl).alloc _
  have r2 : RowAt w0 (W.heap.size + 1) TWd (WC as_ w.stem.length cs al w.loop.length cl) := by rw [hw0]; exact RowAt.new #[.slice as_ w.stem.length cs, .slice al w.loop.length cl] (by simp)
  replace r1 := Lib.hid r1
  replace r2 := Lib.hid r2
  replace hb0 := Lib.hid hb0
  cases hf : farB A with
  | true =>
    rw [hf] at FA
    replace FA := Lib.hid FA
    clear hf ok hA hw hw1 hw2
    generalize w.stem.length = ns at hw0 r2 hw3 ⊢
    generalize w.loop.length = nl at hw0 r2 hw4 ⊢
    go_enter Try.func4, Try.ntmps4
    go_wp2_with fail
    rw [← hw0]
    refine FA.out.mono ?_
    rintro e w1 ⟨rfl, hb1⟩
    go_wp2_with fail
    refine (lives_true _).mono ?_
    rintro e w2 ⟨rfl, hb2⟩
    go_wp2
    go_ret
    exact ⟨rfl, btrans (btrans hb0.out hb1) hb2⟩
  | false =>
    rw [hf] at FA
    obtain ⟨f2, f3⟩ := far_noW hf
    by_cases h30 : 30 < w.stem.length + w.loop.length
    · obtain ⟨ns, hns⟩ : ∃ ns, ns = w.stem.length := ⟨_, rfl⟩
      obtain ⟨nl, hnl⟩ : ∃ nl, nl = w.loop.length := ⟨_, rfl⟩
      rw [← hns, ← hnl] at hw0 r2 h30 ⊢
      rw [← hns] at hw3
      rw [← hnl] at hw4
      have h30' : (30 : Int) < (ns : Int) + (nl : Int) := by omega
      have hs0 : (ns : Int) ≤ 17592186043904 := by omega
      have hl0 : (nl : Int) ≤ 17592186043904 := by omega
      replace FA := Lib.hid FA
      clear hf ok hA hw hw1 hw2 hns hnl h30 f2 f3 hw3 hw4
      go_enter Try.func4, Try.ntmps4
      go_wp2_with fail
      rw [← hw0]
      refine FA.out.mono ?_
      rintro e w1 ⟨rfl, hb1⟩
      have s2 := r2.out.below hb1
      have a0 : w1.cell? ⟨W.heap.size + 1, 0, none⟩ = some (.slice as_ ns cs) := s2.cell 0
      have a1 : w1.cell? ⟨W.heap.size + 1, 1, none⟩ = some (.slice al nl cl) := s2.cell 1
      have hbw := btrans hb0.out hb1
      replace s2 := Lib.hid s2
      clear hw0
      go_wp2_with fail
      refine (lives_true _).mono ?_
      rintro e w2 ⟨rfl, hb2⟩
      go_wp2
      go_ret
      exact ⟨rfl, btrans hbw hb2⟩
    have okw : WordOk w := ⟨by unfold WD.len; omega, hw1, hw2⟩
    have ONE := Lib.hid (fun w' (hb : Below W.heap.size W w') => one_any w' ai an ci cn A (hA.below hb) ok ⟨by omega, fun x hx => Nat.le_trans (f3 x hx) (by omega)⟩)
    have hbad : Hid ((oneP A).1 ≠ 0 → (oneP A).2 = ⟨0, [], []⟩) := one_bad
    have hgood : Hid ((oneP A).1 = 0 → chk A = 0 ∧ AuOk (oneP A).2 ∧ chk (oneP A).2 = 0 ∧ (oneP A).2.init.length ≤ 2000 ∧ (∀ x ∈ (oneP A).2.nodes, x.to.length ≤ 2000) ∧ (TakesW A w ↔ TakesW (oneP A).2 w)) := fun hz => by
      have hc : chk A = 0 := by
        have h1 := hz
        unfold oneP at h1
        by_cases hc : chk A ≠ 0
        · rw [if_pos hc] at h1
          exact h1
        · simpa using hc
      obtain ⟨s, hs⟩ := Int.eq_ofNat_of_zero_le (chk_goodT hc).2.1
      have ho : oneP A = (0, (oneP A).2) := by rw [← hz]
      obtain ⟨sm, okB, l1, l2⟩ := one_small2 ok hs ho
      obtain ⟨L, hL⟩ := one_prd hs ho
      exact ⟨hc, okB, sm.chk, l1, l2, and_congr Iff.rfl hL.takes⟩
    have TK := Lib.hid (fun (hc : chk A = 0) w' (hb : Below W.heap.size W w') => takes_any w' ai an ci cn A (hA.below hb) ok hc (by omega) (fun x hx => Nat.le_trans (f3 x hx) (by omega)) as_ al cs cl w (hw.below hb) okw)
    have TKB := Lib.hid (fun w' (hb : Below W.heap.size W w') B b0 d0 bo d1 (hB : AuAt w' b0 B.init.length bo B.nodes.length B) (okB : AuOk B) (hc : chk B = 0) (l1 : B.init.length ≤ 2000) (l2 : ∀ x ∈ B.nodes, x.to.length ≤ 2000) => takes_any w' b0 bo d0 d1 B hB okB hc l1 l2 as_ al cs cl w (hw.below hb) okw)
    obtain ⟨q, hq⟩ : ∃ q, q = oneP A := ⟨_, rfl⟩
    rw [← hq] at ONE hbad hgood
    obtain ⟨why, B⟩ := q
    replace hq := Lib.hid hq
    simp only at hbad hgood
    obtain ⟨ns, hns⟩ : ∃ ns, ns = w.stem.length := ⟨_, rfl⟩
    obtain ⟨nl, hnl⟩ : ∃ nl, nl = w.loop.length := ⟨_, rfl⟩
    rw [← hns, ← hnl] at hw0 r2 h30 TK TKB ⊢
    rw [← hns] at hw3
    rw [← hnl] at hw4
    have h30' : decide ((30 : Int) < (ns : Int) + (nl : Int)) = false := by simp; omega
    have hs0 : (ns : Int) ≤ 30 := by omega
    have hl0 : (nl : Int) ≤ 30 := by omega
    have hs1 : (0 : Int) ≤ (ns : Int) := by omega
    have hl1 : (0 : Int) ≤ (nl : Int) := by omega
    replace FA := Lib.hid FA
    clear hf ok hA hw hw1 hw2 hns hnl h30 f2 f3 hw3 hw4 okw
    go_enter Try.func4, Try.ntmps4
    go_wp2_with fail
    rw [← hw0]
    refine FA.out.mono ?_
    rintro e w1 ⟨rfl, hb1⟩
    have s1 := r1.out.below hb1
    have s2 := r2.out.below hb1
    have a0 : w1.cell? ⟨W.heap.size + 1, 0, none⟩ = some (.slice as_ ns cs) := s2.cell 0
    have a1 : w1.cell? ⟨W.heap.size + 1, 1, none⟩ = some (.slice al nl cl) := s2.cell 1
    have c0 : w1.cell? ⟨W.heap.size, 0, none⟩ = some (.int .i64 A.sets) := s1.cell 0
    have c1 : w1.cell? ⟨W.heap.size, 1, none⟩ = some (.slice ai A.init.length ci) := s1.cell 1
    have c2 : w1.cell? ⟨W.heap.size, 2, none⟩ = some (.slice an A.nodes.length cn) := s1.cell 2
    have hbw := btrans hb0.out hb1
    clear hw0 FA hb1
    go_wp2_with fail
    refine (ONE.out _ hbw).mono ?_
    rintro e w2 ⟨b0, d0, bo, d1, rfl, hBi, hBn, hb2⟩
    simp only at hBi hBn
    have hbw2 := btrans hbw hb2
    have s1 := s1.below hb2
    have s2 := s2.below hb2
    clear a0 a1 c0 c1 c2 ONE hb2 r1 r2 hb0
    by_cases hw : why ≠ 0
    · obtain rfl := hbad.out hw
      have hwb : (why != 0) = true := by simpa using hw
      replace hbw2 := Lib.hid hbw2
      replace s1 := Lib.hid s1
      replace s2 := Lib.hid s2
      clear hw hBi hBn hgood hbad TK TKB
      go_wp2_with fail
      refine (lives_true _).mono ?_
      rintro e w3 ⟨rfl, hb3⟩
      go_wp2
      go_ret
      exact ⟨rfl, btrans (balloc hbw2.out _) hb3⟩
    · have hw : why = 0 := by simpa using hw
      subst hw
      obtain ⟨hc, okB, hcB, l1, l2, hiff⟩ := hgood.out rfl
      have TKA := Lib.hid (TK.out hc)
      obtain ⟨w3, hw3⟩ : ∃ w3, w3 = w2.alloc (.cells #[.int .i64 B.sets, .slice b0 B.init.length d0, .slice bo B.nodes.length d1] TA) := ⟨_, rfl⟩
      have hb3 : Below w2.heap.size w2 w3 := by rw [hw3]; exact balloc (Below.refl _ _) _
      have rB : RowAt w3 w2.heap.size TA [.int .i64 B.sets, .slice b0 B.init.length d0, .slice bo B.nodes.length d1] := by rw [hw3]; exact RowAt.new (w := w2) #[.int .i64 B.sets, .slice b0 B.init.length d0, .slice bo B.nodes.length d1] rfl
      have s1 := s1.below hb3
      have s2 := s2.below hb3
      have hB : AuAt w3 b0 B.init.length bo B.nodes.length B := ⟨rfl, rfl, hBi.below hb3, hBn.below hb3⟩
      have hbw3 := btrans hbw2 hb3
      have a0 : w3.cell? ⟨W.heap.size + 1, 0, none⟩ = some (.slice as_ ns cs) := s2.cell 0
      have a1 : w3.cell? ⟨W.heap.size + 1, 1, none⟩ = some (.slice al nl cl) := s2.cell 1
      have c0 : w3.cell? ⟨W.heap.size, 0, none⟩ = some (.int .i64 A.sets) := s1.cell 0
      have c1 : w3.cell? ⟨W.heap.size, 1, none⟩ = some (.slice ai A.init.length ci) := s1.cell 1
      have c2 : w3.cell? ⟨W.heap.size, 2, none⟩ = some (.slice an A.nodes.length cn) := s1.cell 2
      have e0 : w3.cell? ⟨w2.heap.size, 0, none⟩ = some (.int .i64 B.sets) := rB.cell 0
      have e1 : w3.cell? ⟨w2.heap.size, 1, none⟩ = some (.slice b0 B.init.length d0) := rB.cell 1
      have e2 : w3.cell? ⟨w2.heap.size, 2, none⟩ = some (.slice bo B.nodes.length d1) := rB.cell 2
      have SB : Hid (∀ w', Below w3.heap.size w3 w' → w'.cell? ⟨W.heap.size + 1, 0, none⟩ = some (.slice as_ ns cs) ∧ w'.cell? ⟨W.heap.size + 1, 1, none⟩ = some (.slice al nl cl) ∧ w'.cell? ⟨W.heap.size, 0, none⟩ = some (.int .i64 A.sets) ∧ w'.cell? ⟨W.heap.size, 1, none⟩ = some (.slice ai A.init.length ci) ∧ w'.cell? ⟨W.heap.size, 2, none⟩ = some (.slice an A.nodes.length cn) ∧ w'.cell? ⟨w2.heap.size, 0, none⟩ = some (.int .i64 B.sets) ∧ w'.cell? ⟨w2.heap.size, 1, none⟩ = some (.slice b0 B.init.length d0) ∧ w'.cell? ⟨w2.heap.size, 2, none⟩ = some (.slice bo B.nodes.length d1)) := fun w' hb => ⟨bcell hb a0, bcell hb a1, bcell hb c0, bcell hb c1, bcell hb c2, bcell hb e0, bcell hb e1, bcell hb e2⟩
      replace hB := Lib.hid hB
      replace hiff := Lib.hid hiff
      replace okB := Lib.hid okB
      replace hcB := Lib.hid hcB
      replace l1 := Lib.hid l1
      replace l2 := Lib.hid l2
      replace hbw3 := Lib.hid hbw3
      replace rB := Lib.hid rB
      replace s1 := Lib.hid s1
      replace s2 := Lib.hid s2
      clear hBi hBn hgood hbad TK hb3 hbw2 hc
      go_wp2
      rw [← hw3]
      clear hw3
      go_region_held3 (fun w' => w'.cell? ⟨W.heap.size + 1, 0, none⟩ = some (.slice as_ ns cs) ∧ w'.cell? ⟨W.heap.size + 1, 1, none⟩ = some (.slice al nl cl) ∧ w'.cell? ⟨W.heap.size, 0, none⟩ = some (.int .i64 A.sets) ∧ w'.cell? ⟨W.heap.size, 1, none⟩ = some (.slice ai A.init.length ci) ∧ w'.cell? ⟨W.heap.size, 2, none⟩ = some (.slice an A.nodes.length cn) ∧ w'.cell? ⟨w2.heap.size, 0, none⟩ = some (.int .i64 B.sets) ∧ w'.cell? ⟨w2.heap.size, 1, none⟩ = some (.slice b0 B.init.length d0) ∧ w'.cell? ⟨w2.heap.size, 2, none⟩ = some (.slice bo B.nodes.length d1)) (first | exact SB.out _ B3 | exact SB.out _ B2 | exact SB.out _ B1 | exact SB.out _ (Below.refl _ _) | exact SB.out _ (Below.refl _ _).drew) (first
        | (go_at_call 9; (with_reducible refine (lives_true _).mono ?_); rintro e w6 ⟨rfl, hb6⟩; have B3 : Below w3.heap.size w3 w6 := btrans B2 hb6)
        | (go_at_call 13; (with_reducible refine (TKB.out _ (btrans hbw3.out B1) B b0 d0 bo d1 (hB.out.below B1) okB.out hcB.out l1.out l2.out).mono ?_); rintro e w5 ⟨p', rfl, hp', hb5⟩; have B2 : Below w3.heap.size w3 w5 := btrans B1 hb5; obtain rfl := iff_eq hp.out hp' hiff.out; have hpp : (p == p) = true := by simp)
        | (go_at_call 13; (with_reducible refine (TKA.out _ hbw3.out.drew).mono ?_); rintro e w4 ⟨p, rfl, hp, hb4⟩; replace hp := Lib.hid hp; have B1 : Below w3.heap.size w3 w4 := ⟨hb4.os, hb4.tape, hb4.output, hb4.size, hb4.block⟩))
      go_wp2
      go_ret
      exact ⟨rfl, btrans hbw3.out B3⟩
end Go.Proofs.Ytefplklkhcpchaa
