/- The walks of layer sim's laws on the greatest simulation. No conditions but the form's reach. -/
import Derived.Test.YtnllgigolfakpaaSimRIs
import Derived.Test.YtnllgigolfakpaaSimWorks
import Derived.Test.YtnllgigolfakpaaSimHeavy
import Derived.Test.YtnllgigolfakpaaSimEq
import Derived.Test.YtnllgigolfakpaaSimOrderPlain
import Derived.Deep.RegionHeld3
namespace Go.Proofs.Ytnllgigolfakpaa
open Go.RowKit

theorem DirOf.len {A : AU} {L : List (List Bool)} (h : DirOf A L) : L.length ≤ 256 ∧ ∀ l ∈ L, l.length ≤ 256 := by
  rcases h with ⟨_, rfl⟩ | ⟨hc, R, _, rfl⟩
  · exact ⟨by simp, by simp⟩
  · have hn := (chk_good hc).1
    obtain ⟨h1, h2⟩ := sq_mat A.nodes.length R
    exact ⟨by omega, fun l hl => by have := h2 l hl; omega⟩
def NoB (w w' : World) : Prop := Below w.heap.size w w'
theorem beq {W w w' : World} (h : Below W.heap.size W w) (k : Below w.heap.size w w') : Below W.heap.size W w' := btrans h k
set_option maxHeartbeats 4000000 in
theorem simDirect_walk (W : World) (c : Array Value) (A : AU) (h : rAU W c.toList A) :
    Calls Try.prog 3 #[.agg c] W fun e w' => e = .returned (.bool true) ∧ Below W.heap.size W w' := by
  obtain ⟨ai, ci, an, cn, hcs, hA, ok, _, _⟩ := AuAt.of_rAU h
  obtain rfl : c = #[.int .i64 A.sets, .slice ai A.init.length ci, .slice an A.nodes.length cn] := by
    cases c; simpa using hcs
  clear h hcs
  have hb0 : Below W.heap.size W (W.alloc (.cells #[.int .i64 A.sets, .slice ai A.init.length ci, .slice an A.nodes.length cn] AUT)) := balloc (Below.refl _ _) _
  have FA := heavy_any _ ai an ci cn A (hA.below hb0) ok
  have r1 := Lib.hid (RowAt.new (w := W) (T := AUT) #[.int .i64 A.sets, .slice ai A.init.length ci, .slice an A.nodes.length cn] rfl)
  have h00 := Lib.hid hb0
  cases hf : heavyB A with
  | true =>
    rw [hf] at FA
    replace FA := Lib.hid FA
    clear hf ok hA hb0
    go_enter Try.func3, Try.ntmps3
    go_wp2_with fail
    refine FA.out.mono ?_
    rintro e w1 ⟨rfl, hb1⟩
    go_wp2_with fail
    refine (works_true _).mono ?_
    rintro e w2 ⟨rfl, hb2⟩
    go_wp2
    go_ret
    exact ⟨rfl, btrans (btrans h00.out hb1) hb2⟩
  | false =>
    rw [hf] at FA
    replace FA := Lib.hid FA
    have DIR := Lib.hid (fun w' (hb : Below W.heap.size W w') => direct_any w' ai an ci cn A (hA.below hb) ok)
    have RDIR := Lib.hid (fun w' (hb : Below W.heap.size W w') => rdirect_any w' ai an ci cn A (hA.below hb) ok)
    clear hf ok hA hb0
    go_enter Try.func3, Try.ntmps3
    go_wp2_with fail
    refine FA.out.mono ?_
    rintro e w1 ⟨rfl, hb1⟩
    have s1 := r1.out.below hb1
    have hbw := btrans h00.out hb1
    have a0 : w1.cell? ⟨W.heap.size, 0, none⟩ = some (.int .i64 A.sets) := s1.cell 0
    have a1 : w1.cell? ⟨W.heap.size, 1, none⟩ = some (.slice ai A.init.length ci) := s1.cell 1
    have a2 : w1.cell? ⟨W.heap.size, 2, none⟩ = some (.slice an A.nodes.length cn) := s1.cell 2
    have SB : Hid (∀ w', Below w1.heap.size w1 w' → w'.cell? ⟨W.heap.size, 0, none⟩ = some (.int .i64 A.sets) ∧ w'.cell? ⟨W.heap.size, 1, none⟩ = some (.slice ai A.init.length ci) ∧ w'.cell? ⟨W.heap.size, 2, none⟩ = some (.slice an A.nodes.length cn)) := fun w' hb => ⟨bcell hb a0, bcell hb a1, bcell hb a2⟩
    replace hbw := Lib.hid hbw
    replace s1 := Lib.hid s1
    clear hb1 FA
    go_wp2
    go_region_held3 (fun w' => w'.cell? ⟨W.heap.size, 0, none⟩ = some (.int .i64 A.sets) ∧ w'.cell? ⟨W.heap.size, 1, none⟩ = some (.slice ai A.init.length ci) ∧ w'.cell? ⟨W.heap.size, 2, none⟩ = some (.slice an A.nodes.length cn)) (first | exact SB.out _ B4 | exact SB.out _ B3 | exact SB.out _ B2 | exact SB.out _ B1 | exact SB.out _ (Below.refl _ _) | exact SB.out _ (Below.refl _ _).drew) (first
      | (go_at_call 9; (with_reducible refine (works_true _).mono ?_); rintro e w5 ⟨rfl, hb5⟩; have B4 : Below w1.heap.size w1 w5 := btrans B3 hb5)
      | (go_at_call 10; (with_reducible refine (rows_yes _ _ _ _ _ _ (RY.below B3s) RX (by have := LX.out.1; omega) (fun l hl => by have := LX.out.2 l hl; omega)).mono ?_); rintro e w4 ⟨rfl, hq4⟩; have B3 : Below w1.heap.size w1 w4 := btrans B2 (hq4.below _))
      | (go_at_call 12; (with_reducible refine (RDIR.out _ (btrans hbw.out B1)).mono ?_); rintro e w3 ⟨ax, cx, LX0, rfl, DX, RX, hb3⟩; have B2 : Below w1.heap.size w1 w3 := btrans B1 hb3; obtain rfl := DX.same DY; have B3s := hb3; have LX := Lib.hid DX.len)
      | (go_at_call 11; (with_reducible refine (DIR.out _ (hbw.out.drew)).mono ?_); rintro e w2 ⟨ay, cy, LY, rfl, DY, RY, hb2⟩; have B1 : Below w1.heap.size w1 w2 := ⟨hb2.os, hb2.tape, hb2.output, hb2.size, hb2.block⟩))
    go_wp2
    go_ret
    exact ⟨rfl, btrans hbw.out B4⟩
theorem bool_iff {a b : Bool} {P : Prop} (h : a = true ↔ P) (k : b = true ↔ P) : a = b := by
  cases a <;> cases b <;> simp_all
set_option maxHeartbeats 8000000 in
theorem simIs_walk (W : World) (c : Array Value) (A : AU) (h : rAU W c.toList A) (v : Value) (L : List (List Bool)) (hv : rSl 1 24 (rSl 1 1 rBool) W [v] L) :
    Calls Try.prog 4 #[.agg c, v] W fun e w' => e = .returned (.bool true) ∧ Below W.heap.size W w' := by
  obtain ⟨ai, ci, an, cn, hcs, hA, ok, _, _⟩ := AuAt.of_rAU h
  obtain rfl : c = #[.int .i64 A.sets, .slice ai A.init.length ci, .slice an A.nodes.length cn] := by
    cases c; simpa using hcs
  obtain ⟨ar, cr, rfl, hR, hRl⟩ := RowsAt.of_rSl hv
  clear h hcs hv
  have hb0 : Below W.heap.size W (W.alloc (.cells #[.int .i64 A.sets, .slice ai A.init.length ci, .slice an A.nodes.length cn] AUT)) := balloc (Below.refl _ _) _
  have FA := heavy_any _ ai an ci cn A (hA.below hb0) ok
  have r1 := Lib.hid (RowAt.new (w := W) (T := AUT) #[.int .i64 A.sets, .slice ai A.init.length ci, .slice an A.nodes.length cn] rfl)
  cases hf : heavyB A with
  | true =>
    rw [hf] at FA
    replace FA := Lib.hid FA
    clear hf ok hA hR hRl
    go_enter Try.func4, Try.ntmps4
    go_wp2_with fail
    refine FA.out.mono ?_
    rintro e w1 ⟨rfl, hb1⟩
    go_wp2_with fail
    refine (works_true _).mono ?_
    rintro e w2 ⟨rfl, hb2⟩
    go_wp2
    go_ret
    exact ⟨rfl, btrans (btrans hb0 hb1) hb2⟩
  | false =>
    rw [hf] at FA
    replace FA := Lib.hid FA
    by_cases hl : 40 < L.length
    · have hl' : (40 : Int) < (L.length : Int) := by omega
      clear hf ok hA hR hRl hl
      go_enter Try.func4, Try.ntmps4
      go_wp2_with fail
      refine FA.out.mono ?_
      rintro e w1 ⟨rfl, hb1⟩
      go_wp2_with fail
      refine (works_true _).mono ?_
      rintro e w2 ⟨rfl, hb2⟩
      go_wp2
      go_ret
      exact ⟨rfl, btrans (btrans hb0 hb1) hb2⟩
    have hl' : decide ((40 : Int) < (L.length : Int)) = false := by simp; omega
    have DIR := Lib.hid (fun w' (hb : Below W.heap.size W w') => direct_any w' ai an ci cn A (hA.below hb) ok)
    have IS1 := Lib.hid (fun w' (hb : Below W.heap.size W w') => is_any w' ai an ci cn A (hA.below hb) ok ar cr L (hR.below hb) (by omega) (fun l hl => by have := hRl l hl; omega))
    have IS2 := Lib.hid (fun w' (hb : Below W.heap.size W w') => ris_any w' ai an ci cn A (hA.below hb) ok ar cr L (hR.below hb) (by omega))
    have hLl : (L.length : Int) ≤ 40 := by omega
    replace hR := Lib.hid hR
    replace hRl := Lib.hid hRl
    clear hf ok hA hl
    go_enter Try.func4, Try.ntmps4
    go_wp2_with fail
    refine FA.out.mono ?_
    rintro e w1 ⟨rfl, hb1⟩
    have s1 := r1.out.below hb1
    have a0 : w1.cell? ⟨W.heap.size, 0, none⟩ = some (.int .i64 A.sets) := s1.cell 0
    have a1 : w1.cell? ⟨W.heap.size, 1, none⟩ = some (.slice ai A.init.length ci) := s1.cell 1
    have a2 : w1.cell? ⟨W.heap.size, 2, none⟩ = some (.slice an A.nodes.length cn) := s1.cell 2
    have hbw := btrans hb0 hb1
    clear FA
    go_wp2_with fail
    refine (IS1.out _ hbw).mono ?_
    rintro e w2 ⟨b, rfl, hb, hb2⟩
    have s2 := s1.below hb2
    have hbw2 := btrans hbw hb2
    replace hb := Lib.hid hb
    clear a0 a1 a2 IS1
    have a0 : w2.cell? ⟨W.heap.size, 0, none⟩ = some (.int .i64 A.sets) := s2.cell 0
    have a1 : w2.cell? ⟨W.heap.size, 1, none⟩ = some (.slice ai A.init.length ci) := s2.cell 1
    have a2 : w2.cell? ⟨W.heap.size, 2, none⟩ = some (.slice an A.nodes.length cn) := s2.cell 2
    go_wp2_with fail
    refine (IS2.out _ hbw2).mono ?_
    rintro e w3 ⟨b', rfl, hb', hb3⟩
    obtain rfl : b = b' := bool_iff hb.out hb'
    have hbb : (b != b) = false := by simp
    have s3 := s2.below hb3
    have hbw3 := btrans hbw2 hb3
    clear a0 a1 a2 IS2 hb'
    have a0 : w3.cell? ⟨W.heap.size, 0, none⟩ = some (.int .i64 A.sets) := s3.cell 0
    have a1 : w3.cell? ⟨W.heap.size, 1, none⟩ = some (.slice ai A.init.length ci) := s3.cell 1
    have a2 : w3.cell? ⟨W.heap.size, 2, none⟩ = some (.slice an A.nodes.length cn) := s3.cell 2
    go_wp2_with fail
    refine (DIR.out _ hbw3).mono ?_
    rintro e w4 ⟨ay, cy, LY, rfl, DY, RY, hb4⟩
    have hbw4 := Lib.hid (btrans hbw3 hb4)
    clear a0 a1 a2 DIR hbb
    cases b with
    | false =>
      go_wp2_with fail
      refine (works_true _).mono ?_
      rintro e w5 ⟨rfl, hb5⟩
      go_wp2
      go_ret
      exact ⟨rfl, btrans hbw4.out hb5⟩
    | true =>
      obtain ⟨hc, hq1, hq2, hq3⟩ := hb.out.1 rfl
      obtain ⟨R, hG, rfl⟩ : ∃ R, Great A R ∧ LY = matL A.nodes.length R := by
        rcases DY with ⟨h1, _⟩ | ⟨_, R, h1, h2⟩
        · exact absurd hc h1
        · exact ⟨R, h1, h2⟩
      obtain ⟨n, hnE⟩ : ∃ n, n = A.nodes.length := ⟨_, rfl⟩
      have himp : Hid (∀ i k, i < n → k < n → fnOf L i k = true → R i k = true) := fun i k hi hk hs => hG.2 (fnOf L) hq3 i k (by omega) (by omega) hs
      have hsL : Square n L := ⟨by omega, fun l hl => by rw [hnE]; exact hq2 l hl⟩
      rw [← hnE] at RY ⊢
      have hsY := sq_mat n R
      have hcel := Lib.hid (fun i k (hi : i < n) (hk : k < n) => (hR.out.below hbw4.out).cellAt hsL hi hk)
      have hcelY : Hid (∀ (i k : Nat) (_ : i < n) (_ : k < n), ∃ b off ai ci b2 o2, ay = some ⟨b, off, none⟩ ∧ w4.cell? ⟨b, off + i, none⟩ = some (.slice ai n ci) ∧ ai = some ⟨b2, o2, none⟩ ∧ w4.cell? ⟨b2, o2 + k, none⟩ = some (.bool (R i k))) := fun i k hi hk => by
        obtain ⟨b, off, ai, ci, b2, o2, h1, _, h2, h3, _, h4⟩ := RY.cellAt hsY hi hk
        rw [fn_mat hi hk] at h4
        exact ⟨b, off, ai, ci, b2, o2, h1, h2, h3, h4⟩
      have hLn : Hid (L.length = n) := hsL.1
      rw [hLn.out] at hLl ⊢
      have hml : (matL n R).length = n := hsY.1
      rw [hml]
      clear hb hbw3 hb4 hb3 hbw2 hb2 hb1 hbw hb0 s1 s2 s3 r1 hc hq1 hq2 hq3 DY RY hsL hsY hG hml hR hRl hnE hl'
      go_wp2
      go_loop [4, 7] (fun rv iv => ∃ i : Nat, i ≤ n ∧ iv = .int .i64 i ∧ rv = .bool false) (fun _ iv => n - (intOf iv).toNat)
      case atStart => exact ⟨0, Nat.zero_le _, rfl, rfl⟩
      case round =>
        obtain ⟨i, hi, rfl, rfl⟩ := hrel
        by_cases hin : i < n
        · have hin2 : (i : Int) < (n : Int) := by omega
          obtain ⟨b0, o0, ar0, cr0, hab0, q1⟩ : ∃ b off a2 c2, ar = some ⟨b, off, none⟩ ∧ w4.cell? ⟨b, off + i, none⟩ = some (.slice a2 n c2) := by
            obtain ⟨b, off, a2, c2, _, _, h1, _, h2, _⟩ := hcel.out i 0 hin (by omega)
            exact ⟨b, off, a2, c2, h1, h2⟩
          have hpos : (0 : Int) < (n : Int) := by omega
          subst hab0
          go_wp2
          go_loop [4, 8] (fun rv kv => ∃ k : Nat, k ≤ n ∧ kv = .int .i64 k ∧ rv = .bool false) (fun _ kv => n - (intOf kv).toNat)
          case atStart => exact ⟨0, Nat.zero_le _, rfl, rfl⟩
          case round =>
            obtain ⟨k, hk, rfl, rfl⟩ := hrel
            by_cases hkn : k < n
            · have hkn2 : (k : Int) < (n : Int) := by omega
              have hkn3 : decide ((n : Int) ≤ (k : Int)) = false := by simp; omega
              obtain ⟨b1, o1, ra, rc, b2, o2, hab1, _, k1, hab2, _, k2⟩ := hcel.out i k hin hkn
              obtain ⟨b3, o3, rd, re, b4, o4, hab3, k3, hab4, k4⟩ := hcelY.out i k hin hkn
              have hi1 := himp.out i k hin hkn
              rw [Option.some.injEq] at hab1
              cases hab1
              rw [q1] at k1
              cases k1
              generalize hfb : fnOf L i k = fb at k2 hi1
              generalize hgb : R i k = gb at k4 hi1
              replace hfb := Lib.hid hfb
              replace hgb := Lib.hid hgb
              subst hab2
              subst hab3
              subst hab4
              cases fb with
              | false =>
                clear hi1 hfb hgb
                go_wp2
                go_round
                case rel => exact ⟨k + 1, by omega, by go_num, rfl⟩
                case measure => simp [intOf]; omega
              | true =>
                obtain rfl := hi1 rfl
                clear hi1 hfb hgb
                go_wp2
                go_round
                case rel => exact ⟨k + 1, by omega, by go_num, rfl⟩
                case measure => simp [intOf]; omega
            · obtain rfl : k = n := by omega
              go_wp2
              go_round
              case rel => exact ⟨i + 1, by omega, by go_num, rfl⟩
              case measure => simp [intOf]; omega
        · obtain rfl : i = n := by omega
          go_wp2_with fail
          refine (works_true _).mono ?_
          rintro e w5 ⟨rfl, hb5⟩
          go_wp2
          go_ret
          exact ⟨rfl, btrans hbw4.out hb5⟩
end Go.Proofs.Ytnllgigolfakpaa
