/- The walk of layer sim's law on the order. No conditions but the form's reach. -/
import Derived.Test.YtnllgigolfakpaaSimLaws
namespace Go.Proofs.Ytnllgigolfakpaa
open Go.RowKit

set_option maxRecDepth 10000 in
set_option maxHeartbeats 8000000 in
theorem simOrder_walk (W : World) (c : Array Value) (A : AU) (h : rAU W c.toList A) :
    Calls Try.prog 5 #[.agg c] W fun e w' => e = .returned (.bool true) ∧ Below W.heap.size W w' := by
  obtain ⟨ai, ci, an, cn, hcs, hA, ok, _, _⟩ := AuAt.of_rAU h
  obtain rfl : c = #[.int .i64 A.sets, .slice ai A.init.length ci, .slice an A.nodes.length cn] := by
    cases c; simpa using hcs
  clear h hcs
  have hb0 : Below W.heap.size W (W.alloc (.cells #[.int .i64 A.sets, .slice ai A.init.length ci, .slice an A.nodes.length cn] AUT)) := balloc (Below.refl _ _) _
  have FA := heavy_any _ ai an ci cn A (hA.below hb0) ok
  have r1 := Lib.hid (RowAt.new (w := W) (T := AUT) #[.int .i64 A.sets, .slice ai A.init.length ci, .slice an A.nodes.length cn] rfl)
  have CK := Lib.hid (fun w' (hb : Below W.heap.size W w') => rcheck_any w' ai an ci cn A (hA.below hb) ok)
  cases hf : heavyB A with
  | true =>
    rw [hf] at FA
    replace FA := Lib.hid FA
    clear hf ok hA CK
    go_enter Try.func5, Try.ntmps5
    go_wp2_with fail
    refine FA.out.mono ?_
    rintro e w1 ⟨rfl, hb1⟩
    go_wp2_with fail
    refine (works_true _).mono ?_
    rintro e w2 ⟨rfl, hb2⟩
    go_wp2
    go_ret
    exact ⟨rfl, btrans (btrans hb0 hb1) hb2⟩
  | false =>
    rw [hf] at FA
    replace FA := Lib.hid FA
    by_cases hc : chk A ≠ 0
    · have hcb : (chk A != 0) = true := by simpa using hc
      generalize chk A = why at CK hcb
      clear hf ok hA hc
      go_enter Try.func5, Try.ntmps5
      go_wp2_with fail
      refine FA.out.mono ?_
      rintro e w1 ⟨rfl, hb1⟩
      have s1 := r1.out.below hb1
      have a0 : w1.cell? ⟨W.heap.size, 0, none⟩ = some (.int .i64 A.sets) := s1.cell 0
      have a1 : w1.cell? ⟨W.heap.size, 1, none⟩ = some (.slice ai A.init.length ci) := s1.cell 1
      have a2 : w1.cell? ⟨W.heap.size, 2, none⟩ = some (.slice an A.nodes.length cn) := s1.cell 2
      have hbw := btrans hb0 hb1
      go_wp2_with fail
      refine (CK.out _ hbw).mono ?_
      rintro e w2 ⟨rfl, hb2⟩
      go_wp2_with fail
      refine (works_true _).mono ?_
      rintro e w3 ⟨rfl, hb3⟩
      go_wp2
      go_ret
      exact ⟨rfl, btrans (btrans hbw hb2) hb3⟩
    have hc : chk A = 0 := by simpa using hc
    rw [hc] at CK
    have hn := (chk_good hc).1
    have DIR := Lib.hid (fun w' (hb : Below W.heap.size W w') => direct_any w' ai an ci cn A (hA.below hb) ok)
    have IS1 := Lib.hid (fun w' (hb : Below W.heap.size W w') a c L (hL : RowsAt w' a L) (h1 : L.length ≤ 256) (h2 : ∀ l ∈ L, l.length ≤ 256) => is_any w' ai an ci cn A (hA.below hb) ok a c L hL (by omega) (fun l hl => by have := h2 l hl; omega))
    have IS2 := Lib.hid (fun w' (hb : Below W.heap.size W w') a c L (hL : RowsAt w' a L) (h1 : L.length ≤ 256) => ris_any w' ai an ci cn A (hA.below hb) ok a c L hL (by omega))
    replace hn := Lib.hid hn
    clear hf ok hA
    go_enter Try.func5, Try.ntmps5
    go_wp2_with fail
    refine FA.out.mono ?_
    rintro e w1 ⟨rfl, hb1⟩
    have s1 := r1.out.below hb1
    have a0 : w1.cell? ⟨W.heap.size, 0, none⟩ = some (.int .i64 A.sets) := s1.cell 0
    have a1 : w1.cell? ⟨W.heap.size, 1, none⟩ = some (.slice ai A.init.length ci) := s1.cell 1
    have a2 : w1.cell? ⟨W.heap.size, 2, none⟩ = some (.slice an A.nodes.length cn) := s1.cell 2
    have hbw := btrans hb0 hb1
    clear FA
    go_wp2_with fail
    refine (CK.out _ hbw).mono ?_
    rintro e w2 ⟨rfl, hb2⟩
    have s2 := s1.below hb2
    have hbw2 := btrans hbw hb2
    clear a0 a1 a2 CK
    have a0 : w2.cell? ⟨W.heap.size, 0, none⟩ = some (.int .i64 A.sets) := s2.cell 0
    have a1 : w2.cell? ⟨W.heap.size, 1, none⟩ = some (.slice ai A.init.length ci) := s2.cell 1
    have a2 : w2.cell? ⟨W.heap.size, 2, none⟩ = some (.slice an A.nodes.length cn) := s2.cell 2
    go_wp2_with fail
    refine (DIR.out _ hbw2).mono ?_
    rintro e w3 ⟨ay, cy, LY, rfl, DY, RY, hb3⟩
    obtain ⟨R, hG, rfl⟩ : ∃ R, Great A R ∧ LY = matL A.nodes.length R := by
      rcases DY with ⟨h1, _⟩ | ⟨_, R, h1, h2⟩
      · exact absurd hc h1
      · exact ⟨R, h1, h2⟩
    have hsq := sq_mat A.nodes.length R
    have hIs : IsP A (matL A.nodes.length R) := ⟨hc, hsq.1, hsq.2, (hG.congr hc (fun i k hi hk => fn_mat hi hk)).1⟩
    have hl1 : (matL A.nodes.length R).length ≤ 256 := by rw [hsq.1]; exact hn.out
    have hl2 : ∀ l ∈ matL A.nodes.length R, l.length ≤ 256 := fun l hl => by rw [hsq.2 l hl]; exact hn.out
    have hrefl : Hid (∀ i, i < A.nodes.length → R i i = true) := fun i hi => hG.refl hi
    have htrans : Hid (∀ i k j, i < A.nodes.length → k < A.nodes.length → j < A.nodes.length → R i k = true → R k j = true → R i j = true) := fun i k j hi hk hj h1 h2 => hG.trans hc hi hk hj h1 h2
    have s3 := s2.below hb3
    have hbw3 := btrans hbw2 hb3
    have I1 := Lib.hid (fun w' (hb : Below w3.heap.size w3 w') => (IS1.out w' (btrans hbw3 hb) ay cy _ (RY.below hb) hl1 hl2).mono (R' := fun e w'' => e = .returned (.bool true) ∧ Below w'.heap.size w' w'') fun e w'' ⟨b, he, hbb, hw⟩ => by
      obtain rfl := hbb.2 hIs
      exact ⟨he, hw⟩)
    have I2 := Lib.hid (fun w' (hb : Below w3.heap.size w3 w') => (IS2.out w' (btrans hbw3 hb) ay cy _ (RY.below hb) hl1).mono (R' := fun e w'' => e = .returned (.bool true) ∧ Below w'.heap.size w' w'') fun e w'' ⟨b, he, hbb, hw⟩ => by
      obtain rfl := hbb.2 hIs
      exact ⟨he, hw⟩)
    have hcel : Hid (∀ w' (_ : Below w3.heap.size w3 w') (i k : Nat) (_ : i < A.nodes.length) (_ : k < A.nodes.length), ∃ b off ai ci b2 o2, ay = some ⟨b, off, none⟩ ∧ w'.cell? ⟨b, off + i, none⟩ = some (.slice ai A.nodes.length ci) ∧ ai = some ⟨b2, o2, none⟩ ∧ w'.cell? ⟨b2, o2 + k, none⟩ = some (.bool (R i k))) := fun w' hb i k hi hk => by
      obtain ⟨b, off, ai, ci, b2, o2, h1, _, h2, h3, _, h4⟩ := (RY.below hb).cellAt hsq hi hk
      rw [fn_mat hi hk] at h4
      exact ⟨b, off, ai, ci, b2, o2, h1, h2, h3, h4⟩
    rw [hsq.1] at I1 I2 ⊢
    clear a0 a1 a2 DIR IS1 IS2 hIs hG DY hl1 hl2 RY hsq
    have a0 : w3.cell? ⟨W.heap.size, 0, none⟩ = some (.int .i64 A.sets) := s3.cell 0
    have a1 : w3.cell? ⟨W.heap.size, 1, none⟩ = some (.slice ai A.init.length ci) := s3.cell 1
    have a2 : w3.cell? ⟨W.heap.size, 2, none⟩ = some (.slice an A.nodes.length cn) := s3.cell 2
    go_wp2_with fail
    refine (I2.out _ (Below.refl _ _)).mono ?_
    rintro e w4 ⟨rfl, hb4⟩
    have s4 := s3.below hb4
    have b4 := hb4
    clear a0 a1 a2
    have a0 : w4.cell? ⟨W.heap.size, 0, none⟩ = some (.int .i64 A.sets) := s4.cell 0
    have a1 : w4.cell? ⟨W.heap.size, 1, none⟩ = some (.slice ai A.init.length ci) := s4.cell 1
    have a2 : w4.cell? ⟨W.heap.size, 2, none⟩ = some (.slice an A.nodes.length cn) := s4.cell 2
    go_wp2_with fail
    refine (I1.out _ b4).mono ?_
    rintro e w5 ⟨rfl, hb5⟩
    have b5 := btrans b4 hb5
    have hbw5 := Lib.hid (btrans hbw3 b5)
    have hce := Lib.hid (fun i k hi hk => hcel.out w5 b5 i k hi hk)
    obtain ⟨n, hnE⟩ : ∃ n, n = A.nodes.length := ⟨_, rfl⟩
    have hn2 : (n : Int) ≤ 256 := by have := hn.out; omega
    rw [← hnE] at hce hrefl htrans ⊢
    clear a0 a1 a2 I1 I2 hcel s1 s2 s3 s4 hb0 hb1 hb2 hb3 hb4 hb5 b4 b5 hbw hbw2 hbw3 hn hnE hc
    go_wp2
    go_loop [2, 5] (fun rv iv => ∃ i : Nat, i ≤ n ∧ iv = .int .i64 i ∧ rv = .bool false) (fun _ iv => n - (intOf iv).toNat)
    case atStart => exact ⟨0, Nat.zero_le _, rfl, rfl⟩
    case round =>
      obtain ⟨i, hi, rfl, rfl⟩ := hrel
      by_cases hin : i < n
      · have hin2 : (i : Int) < (n : Int) := by omega
        go_wp2
        go_loop [2, 6] (fun rv kv => ∃ k : Nat, k ≤ n ∧ kv = .int .i64 k ∧ rv = .bool false) (fun _ kv => n - (intOf kv).toNat)
        case atStart => exact ⟨0, Nat.zero_le _, rfl, rfl⟩
        case round =>
          obtain ⟨k, hk, rfl, rfl⟩ := hrel
          by_cases hkn : k < n
          · have hkn2 : (k : Int) < (n : Int) := by omega
            go_wp2
            go_loop [2, 7] (fun rv jv => ∃ j : Nat, j ≤ n ∧ jv = .int .i64 j ∧ rv = .bool false) (fun _ jv => n - (intOf jv).toNat)
            case atStart => exact ⟨0, Nat.zero_le _, rfl, rfl⟩
            case round =>
              obtain ⟨j, hj, rfl, rfl⟩ := hrel
              by_cases hjn : j < n
              · have hjn2 : (j : Int) < (n : Int) := by omega
                obtain ⟨b1, o1, ra, rc, b2, o2, hab1, k1, hab2, k2⟩ := hce.out i i hin hin
                obtain ⟨b3, o3, rd, re, b4, o4, hab3, k3, hab4, k4⟩ := hce.out i k hin hkn
                obtain ⟨b5, o5, rf, rg, b6, o6, hab5, k5, hab6, k6⟩ := hce.out k j hkn hjn
                obtain ⟨b7, o7, rh, ri, b8, o8, hab7, k7, hab8, k8⟩ := hce.out i j hin hjn
                have h1 := hrefl.out i hin
                have h2 := htrans.out i k j hin hkn hjn
                rw [h1] at k2
                subst hab1
                cases hab3
                cases hab5
                cases hab7
                rw [k1] at k3 k7
                cases k3
                cases k7
                subst hab2
                cases hab4
                cases hab8
                subst hab6
                generalize hp : R i k = p at k4 h2
                generalize hq : R k j = q at k6 h2
                generalize hs : R i j = s at k8 h2
                replace hp := Lib.hid hp
                replace hq := Lib.hid hq
                replace hs := Lib.hid hs
                clear h1
                cases p with
                | false =>
                  clear h2 hp hq hs
                  go_wp2
                  go_round
                  case rel => exact ⟨j + 1, by omega, by go_num, rfl⟩
                  case measure => simp [intOf]; omega
                | true =>
                  cases q with
                  | false =>
                    clear h2 hp hq hs
                    go_wp2
                    go_round
                    case rel => exact ⟨j + 1, by omega, by go_num, rfl⟩
                    case measure => simp [intOf]; omega
                  | true =>
                    obtain rfl := h2 rfl rfl
                    clear h2 hp hq hs
                    go_wp2
                    go_round
                    case rel => exact ⟨j + 1, by omega, by go_num, rfl⟩
                    case measure => simp [intOf]; omega
              · obtain rfl : j = n := by omega
                go_wp2
                go_round
                case rel => exact ⟨k + 1, by omega, by go_num, rfl⟩
                case measure => simp [intOf]; omega
          · obtain rfl : k = n := by omega
            go_wp2
            go_round
            case rel => exact ⟨i + 1, by omega, by go_num, rfl⟩
            case measure => simp [intOf]; omega
      · obtain rfl : i = n := by omega
        go_wp2_with fail
        refine (works_true _).mono ?_
        rintro e w6 ⟨rfl, hb6⟩
        go_wp2
        go_ret
        exact ⟨rfl, btrans hbw5.out hb6⟩
end Go.Proofs.Ytnllgigolfakpaa
