/- The walk of layer sim's law on words. No conditions but the form's reach. -/
import Derived.Test.YtnllgigolfakpaaTakes
import Derived.Test.YtnllgigolfakpaaSimWordsPlain
import Derived.Test.YtnllgigolfakpaaSimFrom
namespace Go.Proofs.Ytnllgigolfakpaa
open Go.RowKit

/-- an automaton that begins at a node -/
def fromA (A : AU) (k : Nat) : AU := ⟨A.sets, [(k : Int)], A.nodes⟩
theorem from_chk {A : AU} (hc : chk A = 0) {k : Nat} (hk : k < A.nodes.length) : chk (fromA A k) = 0 := by
  unfold chk at hc ⊢
  unfold fromA
  simp only at hc ⊢
  by_cases h1 : 256 < A.nodes.length ∨ 16 < A.sets
  · rw [if_pos h1] at hc; cases hc
  rw [if_neg h1] at hc ⊢
  by_cases h2 : A.sets < 0
  · rw [if_pos h2] at hc; cases hc
  rw [if_neg h2] at hc ⊢
  by_cases h3 : A.init.any (outB A.nodes.length) = true
  · rw [if_pos h3] at hc; cases hc
  rw [if_neg h3] at hc
  have h4 : ¬ ([(k : Int)].any (outB A.nodes.length) = true) := by
    simp [outB]
    omega
  rw [if_neg h4]
  exact hc
theorem from_takes {A : AU} (hc : chk A = 0) {R : Nat → Nat → Bool} (hR : IsSim A R) {w : WD} {i k : Nat} (hk : k < A.nodes.length) (hr : R i k = true) (h : TakesW (fromA A i) w) : TakesW (fromA A k) w := by
  obtain ⟨h0, q, hq, _, hg⟩ := h
  have hq' : q = (i : Int) := by simpa [fromA] using hq
  subst hq'
  rw [Int.toNat_natCast] at hg
  obtain ⟨k1, k2⟩ := sim_good hc hR hk hr (A := A) (w := w) (i := i) (m := 0) hg
  exact ⟨h0, (k : Int), by simp [fromA], by rw [Int.toNat_natCast]; exact k2, by rw [Int.toNat_natCast]; exact k1⟩
set_option maxRecDepth 10000 in
set_option maxHeartbeats 8000000 in
theorem simWords_walk (W : World) (c : Array Value) (A : AU) (h : rAU W c.toList A) (c' : Array Value) (w : WD) (h' : rWD W c'.toList w) :
    Calls Try.prog 6 #[.agg c, .agg c'] W fun e w' => e = .returned (.bool true) ∧ Below W.heap.size W w' := by
  obtain ⟨ai, ci, an, cn, hcs, hA, ok, _, _⟩ := AuAt.of_rAU h
  obtain rfl : c = #[.int .i64 A.sets, .slice ai A.init.length ci, .slice an A.nodes.length cn] := by
    cases c; simpa using hcs
  obtain ⟨as_, cs, al, cl, hcs', hw, hw1, hw2, hw3, hw4⟩ := WordAt.of_rWD h'
  obtain rfl : c' = #[.slice as_ w.stem.length cs, .slice al w.loop.length cl] := by
    cases c'; simpa using hcs'
  clear h hcs h' hcs'
  obtain ⟨w0, hw0⟩ : ∃ w0, w0 = (W.alloc (.cells #[.int .i64 A.sets, .slice ai A.init.length ci, .slice an A.nodes.length cn] AUT)).alloc (.cells #[.slice as_ w.stem.length cs, .slice al w.loop.length cl] TWd) := ⟨_, rfl⟩
  have hb0 : Below W.heap.size W w0 := by rw [hw0]; exact balloc (balloc (Below.refl _ _) _) _
  have FA := heavy_any w0 ai an ci cn A (hA.below hb0) ok
  have r1 : RowAt w0 W.heap.size AUT [.int .i64 A.sets, .slice ai A.init.length ci, .slice an A.nodes.length cn] := by rw [hw0]; exact (RowAt.new (w := W) #[.int .i64 A.sets, .slice ai A.init.length ci, .slice an A.nodes.length cn] rfl).alloc _
  have r2 : RowAt w0 (W.heap.size + 1) TWd (WC as_ w.stem.length cs al w.loop.length cl) := by rw [hw0]; exact RowAt.new #[.slice as_ w.stem.length cs, .slice al w.loop.length cl] (by simp)
  have CK := Lib.hid (fun w' (hb : Below W.heap.size W w') => rcheck_any w' ai an ci cn A (hA.below hb) ok)
  replace r1 := Lib.hid r1
  replace r2 := Lib.hid r2
  replace hb0 := Lib.hid hb0
  obtain ⟨ns, hns⟩ : ∃ ns, ns = w.stem.length := ⟨_, rfl⟩
  obtain ⟨nl, hnl⟩ : ∃ nl, nl = w.loop.length := ⟨_, rfl⟩
  cases hf : heavyB A with
  | true =>
    rw [hf] at FA
    rw [← hns, ← hnl] at hw0 r2 ⊢
    replace FA := Lib.hid FA
    clear hf ok hA hw hw1 hw2 CK hns hnl
    go_enter Try.func6, Try.ntmps6
    go_wp2_with fail
    rw [← hw0]
    refine FA.out.mono ?_
    rintro e w1 ⟨rfl, hb1⟩
    go_wp2_with fail
    refine (works_true _).mono ?_
    rintro e w2 ⟨rfl, hb2⟩
    go_wp2
    go_ret
    exact ⟨rfl, btrans (btrans hb0.out hb1) hb2⟩
  | false =>
    rw [hf] at FA
    obtain ⟨f1, f2, f3⟩ := heavy_no hf
    replace FA := Lib.hid FA
    by_cases hc : chk A ≠ 0
    · have hcb : (chk A != 0) = true := by simpa using hc
      rw [← hns, ← hnl] at hw0 r2 ⊢
      generalize chk A = why at CK hcb
      clear hf ok hA hc hw hw1 hw2 hns hnl f1 f2 f3
      go_enter Try.func6, Try.ntmps6
      go_wp2_with fail
      rw [← hw0]
      refine FA.out.mono ?_
      rintro e w1 ⟨rfl, hb1⟩
      have s1 := r1.out.below hb1
      have a0 : w1.cell? ⟨W.heap.size, 0, none⟩ = some (.int .i64 A.sets) := s1.cell 0
      have a1 : w1.cell? ⟨W.heap.size, 1, none⟩ = some (.slice ai A.init.length ci) := s1.cell 1
      have a2 : w1.cell? ⟨W.heap.size, 2, none⟩ = some (.slice an A.nodes.length cn) := s1.cell 2
      have hbw := btrans hb0.out hb1
      clear hw0
      go_wp2_with fail
      refine (CK.out _ hbw).mono ?_
      rintro e w2 ⟨rfl, hb2⟩
      go_wp2_with fail
      refine (works_true _).mono ?_
      rintro e w3 ⟨rfl, hb3⟩
      go_wp2
      go_ret
      exact ⟨rfl, btrans (btrans hbw hb2) hb3⟩
    have hc : chk A = 0 := by simpa using hc
    rw [hc] at CK
    by_cases hbad : 8 < ns ∨ 8 < nl ∨ nl = 0
    · have WK := Lib.hid (fun (h : ns + nl ≤ 40) w' => wchk_any w' as_ al ns cs nl cl h)
      rw [← hns, ← hnl] at hw0 r2 ⊢
      have hns1 : (ns : Int) ≤ 17592186043904 := by omega
      have hnl1 : (nl : Int) ≤ 17592186043904 := by omega
      clear hf ok hA hw hw1 hw2 hns hnl f1 f2 f3 hw3 hw4 hc
      go_enter Try.func6, Try.ntmps6
      go_wp2_with fail
      rw [← hw0]
      refine FA.out.mono ?_
      rintro e w1 ⟨rfl, hb1⟩
      have s1 := r1.out.below hb1
      have s2 := r2.out.below hb1
      have a0 : w1.cell? ⟨W.heap.size, 0, none⟩ = some (.int .i64 A.sets) := s1.cell 0
      have a1 : w1.cell? ⟨W.heap.size, 1, none⟩ = some (.slice ai A.init.length ci) := s1.cell 1
      have a2 : w1.cell? ⟨W.heap.size, 2, none⟩ = some (.slice an A.nodes.length cn) := s1.cell 2
      have hbw := btrans hb0.out hb1
      clear hw0
      go_wp2_with fail
      refine (CK.out _ hbw).mono ?_
      rintro e w2 ⟨rfl, hb2⟩
      have s2 := s2.below hb2
      have hbw2 := btrans hbw hb2
      clear a0 a1 a2
      have b0 : w2.cell? ⟨W.heap.size + 1, 0, none⟩ = some (.slice as_ ns cs) := s2.cell 0
      have b1 : w2.cell? ⟨W.heap.size + 1, 1, none⟩ = some (.slice al nl cl) := s2.cell 1
      by_cases h8 : 8 < ns
      · have h8' : (8 : Int) < (ns : Int) := by omega
        clear hbad h8
        go_wp2_with fail
        refine (works_true _).mono ?_
        rintro e w3 ⟨rfl, hb3⟩
        go_wp2
        go_ret
        exact ⟨rfl, btrans hbw2 hb3⟩
      have h8' : decide ((8 : Int) < (ns : Int)) = false := by simp; omega
      by_cases h9 : 8 < nl
      · have h9' : (8 : Int) < (nl : Int) := by omega
        clear hbad h8 h9
        go_wp2_with fail
        refine (works_true _).mono ?_
        rintro e w3 ⟨rfl, hb3⟩
        go_wp2
        go_ret
        exact ⟨rfl, btrans hbw2 hb3⟩
      have h9' : decide ((8 : Int) < (nl : Int)) = false := by simp; omega
      have hnl0 : nl = 0 := by omega
      have WK2 := Lib.hid (WK.out (by omega))
      rw [if_pos hnl0] at WK2
      clear hbad h8 h9 hnl0 WK
      go_wp2_with fail
      refine (WK2.out _).mono ?_
      rintro e w3 ⟨rfl, hb3⟩
      go_wp2_with fail
      refine (works_true _).mono ?_
      rintro e w4 ⟨rfl, hb4⟩
      go_wp2
      go_ret
      exact ⟨rfl, btrans (btrans hbw2 hb3) hb4⟩
    have h8 : ns ≤ 8 := by omega
    have h9 : nl ≤ 8 := by omega
    have h10 : 0 < nl := by omega
    have okw : WordOk w := ⟨by unfold WD.len; omega, hw1, hw2⟩
    have WK := Lib.hid (fun w' => wchk_any w' as_ al ns cs nl cl (by omega))
    rw [if_neg (by omega)] at WK
    have DIR := Lib.hid (fun w' (hb : Below W.heap.size W w') => direct_any w' ai an ci cn A (hA.below hb) ok)
    have hN := hA.nodes
    have TK := Lib.hid (fun w' (hb : Below W.heap.size W w') k (hk : k < A.nodes.length) g (hg : NumsAt .i64 w' (some ⟨g, 0, none⟩) [(k : Int)]) => takes_yes w' (some ⟨g, 0, none⟩) an 1 cn (fromA A k) ⟨rfl, rfl, hg, hN.below hb⟩ ⟨ok.sets, fun x hx => by simp [fromA] at hx; subst hx; have := (chk_goodT hc).1; omega, by simp [fromA], ok.nodesL, ok.nodes⟩ (from_chk hc hk) (by simp [fromA]) (fun x hx => by have := f3 x hx; omega) as_ al cs cl w (hw.below hb) okw (by omega))
    have hn16 : (A.nodes.length : Int) ≤ 16 := by omega
    rw [← hns, ← hnl] at hw0 r2 TK ⊢
    have h8' : decide ((8 : Int) < (ns : Int)) = false := by simp; omega
    have h9' : decide ((8 : Int) < (nl : Int)) = false := by simp; omega
    clear hf ok hA hw hw1 hw2 hns hnl f1 f2 f3 hw3 hw4 okw hbad h8 h9 h10 hN
    go_enter Try.func6, Try.ntmps6
    go_wp2_with fail
    rw [← hw0]
    refine FA.out.mono ?_
    rintro e w1 ⟨rfl, hb1⟩
    have s1 := r1.out.below hb1
    have s2 := r2.out.below hb1
    have a0 : w1.cell? ⟨W.heap.size, 0, none⟩ = some (.int .i64 A.sets) := s1.cell 0
    have a1 : w1.cell? ⟨W.heap.size, 1, none⟩ = some (.slice ai A.init.length ci) := s1.cell 1
    have a2 : w1.cell? ⟨W.heap.size, 2, none⟩ = some (.slice an A.nodes.length cn) := s1.cell 2
    have hbw := btrans hb0.out hb1
    clear hw0 FA hb1
    go_wp2_with fail
    refine (CK.out _ hbw).mono ?_
    rintro e w2 ⟨rfl, hb2⟩
    have s1 := s1.below hb2
    have s2 := s2.below hb2
    have hbw2 := btrans hbw hb2
    clear a0 a1 a2 CK hb2 hbw
    have b0 : w2.cell? ⟨W.heap.size + 1, 0, none⟩ = some (.slice as_ ns cs) := s2.cell 0
    have b1 : w2.cell? ⟨W.heap.size + 1, 1, none⟩ = some (.slice al nl cl) := s2.cell 1
    go_wp2_with fail
    refine (WK.out _).mono ?_
    rintro e w3 ⟨rfl, hb3⟩
    have s1 := s1.below hb3
    have s2 := s2.below hb3
    have hbw3 := btrans hbw2 hb3
    clear b0 b1 WK hb3 hbw2
    have a0 : w3.cell? ⟨W.heap.size, 0, none⟩ = some (.int .i64 A.sets) := s1.cell 0
    have a1 : w3.cell? ⟨W.heap.size, 1, none⟩ = some (.slice ai A.init.length ci) := s1.cell 1
    have a2 : w3.cell? ⟨W.heap.size, 2, none⟩ = some (.slice an A.nodes.length cn) := s1.cell 2
    go_wp2_with fail
    refine (DIR.out _ hbw3).mono ?_
    rintro e w4 ⟨ay, cy, LY, rfl, DY, RY, hb4⟩
    obtain ⟨R, hG, rfl⟩ : ∃ R, Great A R ∧ LY = matL A.nodes.length R := by
      rcases DY with ⟨h1, _⟩ | ⟨_, R, h1, h2⟩
      · exact absurd hc h1
      · exact ⟨R, h1, h2⟩
    have s1 := Lib.hid (s1.below hb4)
    have s2 := Lib.hid (s2.below hb4)
    have hbw4 := Lib.hid (btrans hbw3 hb4)
    have hsq := sq_mat A.nodes.length R
    have hcel : Hid (∀ w' (_ : Below w4.heap.size w4 w') (i k : Nat) (_ : i < A.nodes.length) (_ : k < A.nodes.length), ∃ b off ai ci b2 o2, ay = some ⟨b, off, none⟩ ∧ w'.cell? ⟨b, off + i, none⟩ = some (.slice ai A.nodes.length ci) ∧ ai = some ⟨b2, o2, none⟩ ∧ w'.cell? ⟨b2, o2 + k, none⟩ = some (.bool (R i k))) := fun w' hb i k hi hk => by
      obtain ⟨b, off, ai, ci, b2, o2, h1, _, h2, h3, _, h4⟩ := (RY.below hb).cellAt hsq hi hk
      rw [fn_mat hi hk] at h4
      exact ⟨b, off, ai, ci, b2, o2, h1, h2, h3, h4⟩
    have himp : Hid (∀ i k, k < A.nodes.length → R i k = true → TakesW (fromA A i) w → TakesW (fromA A k) w) := fun i k hk hr ht => from_takes hc hG.1 hk hr ht
    rw [hsq.1]
    obtain ⟨n, hnE⟩ : ∃ n, n = A.nodes.length := ⟨_, rfl⟩
    obtain ⟨ni, hniE⟩ : ∃ ni, ni = A.init.length := ⟨_, rfl⟩
    rw [← hnE] at s1 hcel himp hn16 TK ⊢
    rw [← hniE] at s1 ⊢
    have TKs : Hid (∀ w' (_ : Below W.heap.size W w') (k : Nat) (_ : k < n) (g : Nat) (_ : NumsAt .i64 w' (some ⟨g, 0, none⟩) [(k : Int)]), Calls Try.prog 17 #[.agg #[.int .i64 A.sets, .slice (some ⟨g, 0, none⟩) 1 1, .slice an n cn], WV as_ ns cs al nl cl] w' (GivesTk w' (fromA A k) w)) := fun w' hb k hk g hg => by
      have h1 := TK.out w' hb k hk g hg
      have e1 : (fromA A k).nodes.length = n := hnE.symm
      rw [e1] at h1
      exact h1
    clear hc hG DY RY hsq hb4 hbw3 a0 a1 a2 DIR TK hnE hniE r1 r2 hb0
    have q1 := s1.out.cell 2
    have hq2 : w4.cell? ⟨W.heap.size, 2, none⟩ = some (.slice an n cn) := q1
    clear q1
    go_wp2
    clear hq2
    go_loopw [4, 6] (fun rv iv wr => ∃ i : Nat, i ≤ n ∧ iv = .int .i64 i ∧ rv = .bool false ∧ Hid (Below w4.heap.size w4 wr)) (fun _ iv _ => n - (intOf iv).toNat)
    case atStart => exact ⟨0, Nat.zero_le _, rfl, rfl, Below.refl _ _⟩
    case round =>
      obtain ⟨i, hi, rfl, rfl, lo⟩ := hrel
      by_cases hin : i < n
      · have hin2 : (i : Int) < (n : Int) := by omega
        by_cases hi4 : i < 4
        · have hi42 : (i : Int) < 4 := by omega
          have hbr := btrans hbw4.out lo.out
          obtain ⟨b1, o1, ra, rc, b2, o2, hab1, k1, hab2, k2⟩ := hcel.out wr lo.out i i hin hin
          have p1 := s1.out.below lo.out
          have p2 := s2.out.below lo.out
          have a0 : wr.cell? ⟨W.heap.size, 0, none⟩ = some (.int .i64 A.sets) := p1.cell 0
          have a1 : wr.cell? ⟨W.heap.size, 1, none⟩ = some (.slice ai ni ci) := p1.cell 1
          have a2 : wr.cell? ⟨W.heap.size, 2, none⟩ = some (.slice an n cn) := p1.cell 2
          have c0 : wr.cell? ⟨W.heap.size + 1, 0, none⟩ = some (.slice as_ ns cs) := p2.cell 0
          have c1 : wr.cell? ⟨W.heap.size + 1, 1, none⟩ = some (.slice al nl cl) := p2.cell 1
          have SB : Hid (∀ w', Below wr.heap.size wr w' → w'.cell? ⟨W.heap.size, 0, none⟩ = some (.int .i64 A.sets) ∧ w'.cell? ⟨W.heap.size, 1, none⟩ = some (.slice ai ni ci) ∧ w'.cell? ⟨W.heap.size, 2, none⟩ = some (.slice an n cn) ∧ w'.cell? ⟨W.heap.size + 1, 0, none⟩ = some (.slice as_ ns cs) ∧ w'.cell? ⟨W.heap.size + 1, 1, none⟩ = some (.slice al nl cl)) := fun w' hb => ⟨bcell hb a0, bcell hb a1, bcell hb a2, bcell hb c0, bcell hb c1⟩
          have hbrn := Lib.hid hbr
          subst hab1
          clear k2 hab2 hbr p1 p2
          go_wp2
          clear k1
          go_region_held3 (fun w' => w'.cell? ⟨W.heap.size, 0, none⟩ = some (.int .i64 A.sets) ∧ w'.cell? ⟨W.heap.size, 1, none⟩ = some (.slice ai ni ci) ∧ w'.cell? ⟨W.heap.size, 2, none⟩ = some (.slice an n cn) ∧ w'.cell? ⟨W.heap.size + 1, 0, none⟩ = some (.slice as_ ns cs) ∧ w'.cell? ⟨W.heap.size + 1, 1, none⟩ = some (.slice al nl cl)) (first | exact SB.out _ B2 | exact SB.out _ B1 | exact SB.out _ (Below.refl _ _) | exact SB.out _ (Below.refl _ _).drew) (first
            | (go_at_call 17; (with_reducible refine (TKs.out _ (btrans hbrn.out B1) i hin gF hgF).mono ?_); rintro e w6 ⟨bi, rfl, hbi, hb6⟩; have B2 : Below wr.heap.size wr w6 := btrans B1 hb6)
            | (go_at_call 18; (with_reducible refine (from_any _ _ _ _ _ _ _ _ _).mono ?_); rintro e w5 ⟨gF, rfl, hgF, hb5⟩; have B1 : Below wr.heap.size wr w5 := ⟨hb5.os, hb5.tape, hb5.output, hb5.size, hb5.block⟩))
          have lo6 := Lib.hid (btrans lo.out B2)
          replace hbi := Lib.hid hbi
          clear a0 a1 a2 c0 c1 SB B1 B2 hb5 hb6 hgF lo hbrn
          cases bi with
          | false =>
            clear hbi
            go_wp2
            go_roundw
            case rel => exact ⟨i + 1, by omega, by go_num, rfl, lo6⟩
            case measure => simp [intOf]; omega
          | true =>
            have hTi := Lib.hid (hbi.out.1 rfl)
            clear hbi
            simp only [Bool.not_true]
            go_wp2
            go_loopw [4, 7] (fun rv kv wr => ∃ k : Nat, k ≤ n ∧ kv = .int .i64 k ∧ rv = .bool false ∧ Hid (Below w4.heap.size w4 wr)) (fun _ kv _ => n - (intOf kv).toNat)
            case atStart => exact ⟨0, Nat.zero_le _, rfl, rfl, lo6⟩
            case round =>
              obtain ⟨k, hk, rfl, rfl, lo⟩ := hrel
              clear lo6
              by_cases hkn : k < n
              · have hkn2 : (k : Int) < (n : Int) := by omega
                obtain ⟨b3, o3, rd, re, b4, o4, hab3, k3, hab4, k4⟩ := hcel.out wr lo.out i k hin hkn
                cases hab3
                have him := himp.out i k hkn
                generalize hfb : R i k = fb at k4 him
                replace hfb := Lib.hid hfb
                subst hab4
                cases fb with
                | false =>
                  clear him hfb
                  go_wp2
                  go_region
                  have lo7 : Hid (Below w4.heap.size w4 wr.drew) := lo.out.drew
                  clear k3 k4 lo
                  go_wp2
                  go_roundw
                  case rel => exact ⟨k + 1, by omega, by go_num, rfl, lo7⟩
                  case measure => simp [intOf]; omega
                | true =>
                  have hTk := Lib.hid (him rfl hTi.out)
                  have hbr := Lib.hid (btrans hbw4.out lo.out)
                  have p1 := s1.out.below lo.out
                  have p2 := s2.out.below lo.out
                  have a0 : wr.cell? ⟨W.heap.size, 0, none⟩ = some (.int .i64 A.sets) := p1.cell 0
                  have a1 : wr.cell? ⟨W.heap.size, 1, none⟩ = some (.slice ai ni ci) := p1.cell 1
                  have a2 : wr.cell? ⟨W.heap.size, 2, none⟩ = some (.slice an n cn) := p1.cell 2
                  have c0 : wr.cell? ⟨W.heap.size + 1, 0, none⟩ = some (.slice as_ ns cs) := p2.cell 0
                  have c1 : wr.cell? ⟨W.heap.size + 1, 1, none⟩ = some (.slice al nl cl) := p2.cell 1
                  have SB : Hid (∀ w', Below wr.heap.size wr w' → w'.cell? ⟨b1, o1 + i, none⟩ = some (.slice (some ⟨b4, o4, none⟩) n re) ∧ w'.cell? ⟨b4, o4 + k, none⟩ = some (.bool true) ∧ w'.cell? ⟨W.heap.size, 0, none⟩ = some (.int .i64 A.sets) ∧ w'.cell? ⟨W.heap.size, 1, none⟩ = some (.slice ai ni ci) ∧ w'.cell? ⟨W.heap.size, 2, none⟩ = some (.slice an n cn) ∧ w'.cell? ⟨W.heap.size + 1, 0, none⟩ = some (.slice as_ ns cs) ∧ w'.cell? ⟨W.heap.size + 1, 1, none⟩ = some (.slice al nl cl)) := fun w' hb => ⟨bcell hb k3, bcell hb k4, bcell hb a0, bcell hb a1, bcell hb a2, bcell hb c0, bcell hb c1⟩
                  have TKt : Hid (∀ w' (_ : Below wr.heap.size wr w') (g : Nat) (_ : NumsAt .i64 w' (some ⟨g, 0, none⟩) [(k : Int)]), Calls Try.prog 17 #[.agg #[.int .i64 A.sets, .slice (some ⟨g, 0, none⟩) 1 1, .slice an n cn], WV as_ ns cs al nl cl] w' fun e w'' => e = .returned (.bool true) ∧ Below w'.heap.size w' w'') := fun w' hb g hg => (TKs.out w' (btrans hbr.out hb) k hkn g hg).mono (fun e w'' ⟨b, he, hbb, hww⟩ => by
                    obtain rfl := hbb.2 hTk.out
                    exact ⟨he, hww⟩)
                  clear him hfb p1 p2
                  go_wp2
                  go_region_held3 (fun w' => w'.cell? ⟨b1, o1 + i, none⟩ = some (.slice (some ⟨b4, o4, none⟩) n re) ∧ w'.cell? ⟨b4, o4 + k, none⟩ = some (.bool true) ∧ w'.cell? ⟨W.heap.size, 0, none⟩ = some (.int .i64 A.sets) ∧ w'.cell? ⟨W.heap.size, 1, none⟩ = some (.slice ai ni ci) ∧ w'.cell? ⟨W.heap.size, 2, none⟩ = some (.slice an n cn) ∧ w'.cell? ⟨W.heap.size + 1, 0, none⟩ = some (.slice as_ ns cs) ∧ w'.cell? ⟨W.heap.size + 1, 1, none⟩ = some (.slice al nl cl)) (first | exact SB.out _ B2 | exact SB.out _ B1 | exact SB.out _ (Below.refl _ _) | exact SB.out _ (Below.refl _ _).drew) (first
                    | (go_at_call 17; (with_reducible refine (TKt.out _ B1 gF hgF).mono ?_); rintro e w6 ⟨rfl, hb6⟩; have B2 : Below wr.heap.size wr w6 := btrans B1 hb6)
                    | (go_at_call 18; (with_reducible refine (from_any _ _ _ _ _ _ _ _ _).mono ?_); rintro e w5 ⟨gF, rfl, hgF, hb5⟩; have B1 : Below wr.heap.size wr w5 := ⟨hb5.os, hb5.tape, hb5.output, hb5.size, hb5.block⟩))
                  have lo7 := Lib.hid (btrans lo.out B2)
                  clear a0 a1 a2 c0 c1 SB B1 B2 hb5 hb6 hgF lo hbr k3 k4
                  go_wp2
                  go_roundw
                  case rel => exact ⟨k + 1, by omega, by go_num, rfl, lo7⟩
                  case measure => simp [intOf]; omega
              · obtain rfl : k = n := by omega
                go_wp2
                go_roundw
                case rel => exact ⟨i + 1, by omega, by go_num, rfl, lo⟩
                case measure => simp [intOf]; omega
        · have hi42 : decide ((i : Int) < 4) = false := by simp; omega
          go_wp2_with fail
          refine (works_true _).mono ?_
          rintro e w6 ⟨rfl, hb6⟩
          go_wp2
          go_ret
          exact ⟨rfl, btrans (btrans hbw4.out lo.out) hb6⟩
      · obtain rfl : i = n := by omega
        go_wp2_with fail
        refine (works_true _).mono ?_
        rintro e w6 ⟨rfl, hb6⟩
        go_wp2
        go_ret
        exact ⟨rfl, btrans (btrans hbw4.out lo.out) hb6⟩
end Go.Proofs.Ytnllgigolfakpaa
