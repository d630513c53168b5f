/- Pairs told anew, as the document's. Conditions: few. -/
import Derived.Test.YtfcpfcgcfaacnaaNdRLasso
import Derived.Test.YtfcpfcgcfaacnaaPrRef
import Derived.Test.YtfcpfcgcfaacnaaFree
namespace Go.Proofs.Ytfcpfcgcfaacnaa
open Go.RowKit

theorem list_getP {l : List Value} {n : Nat} (h : l.length = n) : l = (List.range n).map fun i => l.getD i undef := by
  refine List.ext_getElem (by simp [h]) fun i h1 h2 => ?_
  simp [List.getD, List.getElem?_eq_getElem h1]
theorem frame31 (arr : Array Value) (h : arr.size = 31) : ∃ q : Nat → Value, arr = #[q 0, q 1, q 2, q 3, q 4, q 5, q 6, q 7, q 8, q 9, q 10, q 11, q 12, q 13, q 14, q 15, q 16, q 17, q 18, q 19, q 20, q 21, q 22, q 23, q 24, q 25, q 26, q 27, q 28, q 29, q 30] := by
  refine ⟨fun i => arr.toList.getD i undef, ?_⟩
  have h1 := list_getP (l := arr.toList) (n := 31) (by simpa using h)
  apply Array.ext'
  exact h1
set_option maxHeartbeats 4000000 in
theorem plain_any (w : World) (sa : Option Addr) (sc : Nat) (l : List PP) (h : PpsAt w sa l) (hl : l.length ≤ 1000000) :
    Calls Try.prog 22 #[.slice sa l.length sc] w fun e w' => ∃ a c, e = .returned (.slice a l.length c) ∧ OwnQ w' w.heap.size TRq a c l ∧ Below w.heap.size w w' := by
  obtain ⟨n, hn⟩ : ∃ n, n = l.length := ⟨_, rfl⟩
  rw [← hn] at hl ⊢
  replace h := Lib.hid h
  replace hn := Lib.hid hn
  have hlI : (n : Int) ≤ 1000000 := by omega
  replace hl := Lib.hid hl
  go_enter Try.func22, Try.ntmps22
  go_wp2
  go_loopw [3, 4] (fun s kv wr => ∃ (k : Nat) (a : Option Addr) (c : Nat), k ≤ n ∧ kv = .int .i64 (k : Int) ∧ s = .slice a k c ∧ Hid (OwnR wr w.heap.size TRq 3 a k c (qcells (l.take k))) ∧ Hid (Below w.heap.size w wr)) (fun _ kv _ => n - (intOf kv).toNat)
  case atStart => exact ⟨0, none, 0, Nat.zero_le _, rfl, rfl, OwnR.nil _ _ _ _, Below.refl _ _⟩
  case round =>
    obtain ⟨k, a, c, hk, rfl, rfl, ow, lo⟩ := hrel
    by_cases hkn : k < n
    · have hkN : (k : Int) < (n : Int) := by omega
      have hkl : k < l.length := by have := hn.out; omega
      obtain ⟨b, off, rfl, hbl, y0, y1, y2⟩ := (h.out.below lo.out).at k hkl
      obtain ⟨y, hy⟩ : ∃ y, y = l[k] := ⟨_, rfl⟩
      rw [← hy] at y0 y1 y2
      have hsn : Hid (qcells (l.take (k + 1)) = qcells (l.take k) ++ [.int .i64 y.node, .int .i64 y.state, .int .i64 y.turn]) := by
        show _ = _
        rw [List.take_succ_eq_append_getElem hkl, qcells_snoc, hy]
      clear hy hkl
      obtain ⟨yn, ys, yt⟩ := y
      dsimp only at y0 y1 y2 hsn
      go_wp2
      refine wp_region_made (by kernel_rfl) 18 [.fix (.slice a k c), .fix (.slice (some ⟨b, off, none⟩) n sc), .fix (.int .i64 (k : Int)), .fix (.pointer (some ⟨b, off + k * 3, none⟩)), .fix (.pointer (some ⟨b, off + k * 3, none⟩)), .fix (.int .i64 yn), .fix (.slice (some ⟨b, off, none⟩) n sc), .fix (.int .i64 (k : Int)), .fix (.pointer (some ⟨b, off + k * 3, none⟩)), .fix (.pointer (some ⟨b, off + k * 3 + 1, none⟩)), .fix (.int .i64 ys), .fix (.slice (some ⟨b, off, none⟩) n sc), .fix (.int .i64 (k : Int)), .fix (.pointer (some ⟨b, off + k * 3, none⟩)), .fix (.pointer (some ⟨b, off + k * 3 + 2, none⟩)), .fix (.int .i64 yt), .fix (.agg #[.int .i64 yn, .int .i64 ys, .int .i64 yt]), .mk TRq 1 [.int .i64 yn, .int .i64 ys, .int .i64 yt]] (by kernel_rfl) (by kernel_rfl) (by kernel_rfl) ?_ ?_
      · intro i hi
        match i, hi with
        | 0, _ =>
          intro o ho ac w' hR hF hD K hK
          simp only [List.getElem?_toArray, List.getElem?_cons_zero, Option.some.injEq] at ho
          subst ho
          have e3 : ac.tmps.getD 3 undef = .slice a k c := hF 3 (notDst_spec (by kernel_rfl))
          have d3 : ac.tmps[3]?.getD undef = .slice a k c := by rw [← Array.getD_eq_getD_getElem?]; exact e3
          clear hD hF
          go_simp
          exact hK _ _ (Below.refl _ _) rfl
        | 1, _ =>
          intro o ho ac w' hR hF hD K hK
          simp only [List.getElem?_toArray, List.getElem?_cons_zero, List.getElem?_cons_succ, Option.some.injEq] at ho
          subst ho
          have e0 : ac.tmps.getD 0 undef = .slice (some ⟨b, off, none⟩) n sc := hF 0 (notDst_spec (by kernel_rfl))
          have d0 : ac.tmps[0]?.getD undef = .slice (some ⟨b, off, none⟩) n sc := by rw [← Array.getD_eq_getD_getElem?]; exact e0
          clear hD hF
          go_simp
          exact hK _ _ (Below.refl _ _) rfl
        | 2, _ =>
          intro o ho ac w' hR hF hD K hK
          simp only [List.getElem?_toArray, List.getElem?_cons_zero, List.getElem?_cons_succ, Option.some.injEq] at ho
          subst ho
          have e4 : ac.tmps.getD 4 undef = .int .i64 (k : Int) := hF 4 (notDst_spec (by kernel_rfl))
          have d4 : ac.tmps[4]?.getD undef = .int .i64 (k : Int) := by rw [← Array.getD_eq_getD_getElem?]; exact e4
          clear hD hF
          go_simp
          exact hK _ _ (Below.refl _ _) rfl
        | 3, _ =>
          intro o ho ac w' hR hF hD K hK
          simp only [List.getElem?_toArray, List.getElem?_cons_zero, List.getElem?_cons_succ, Option.some.injEq] at ho
          subst ho
          have e12 : ac.tmps.getD 12 undef = .slice (some ⟨b, off, none⟩) n sc := hD 1 (dep_spec (by kernel_rfl)) 12 rfl
          have d12 : ac.tmps[12]?.getD undef = .slice (some ⟨b, off, none⟩) n sc := by rw [← Array.getD_eq_getD_getElem?]; exact e12
          have e13 : ac.tmps.getD 13 undef = .int .i64 (k : Int) := hD 2 (dep_spec (by kernel_rfl)) 13 rfl
          have d13 : ac.tmps[13]?.getD undef = .int .i64 (k : Int) := by rw [← Array.getD_eq_getD_getElem?]; exact e13
          clear hD hF
          go_simp
          exact hK _ _ (Below.refl _ _) rfl
        | 4, _ =>
          intro o ho ac w' hR hF hD K hK
          simp only [List.getElem?_toArray, List.getElem?_cons_zero, List.getElem?_cons_succ, Option.some.injEq] at ho
          subst ho
          have e14 : ac.tmps.getD 14 undef = .pointer (some ⟨b, off + k * 3, none⟩) := hD 3 (dep_spec (by kernel_rfl)) 14 rfl
          have d14 : ac.tmps[14]?.getD undef = .pointer (some ⟨b, off + k * 3, none⟩) := by rw [← Array.getD_eq_getD_getElem?]; exact e14
          clear hD hF
          go_simp
          exact hK _ _ (Below.refl _ _) rfl
        | 5, _ =>
          intro o ho ac w' hR hF hD K hK
          simp only [List.getElem?_toArray, List.getElem?_cons_zero, List.getElem?_cons_succ, Option.some.injEq] at ho
          subst ho
          have e15 : ac.tmps.getD 15 undef = .pointer (some ⟨b, off + k * 3, none⟩) := hD 4 (dep_spec (by kernel_rfl)) 15 rfl
          have d15 : ac.tmps[15]?.getD undef = .pointer (some ⟨b, off + k * 3, none⟩) := by rw [← Array.getD_eq_getD_getElem?]; exact e15
          clear hD hF
          have c0 : w'.cell? ⟨b, off + k * 3, none⟩ = some (.int .i64 yn) := bcell hR y0
          go_simp
          exact hK _ _ (Below.refl _ _) rfl
        | 6, _ =>
          intro o ho ac w' hR hF hD K hK
          simp only [List.getElem?_toArray, List.getElem?_cons_zero, List.getElem?_cons_succ, Option.some.injEq] at ho
          subst ho
          have e0 : ac.tmps.getD 0 undef = .slice (some ⟨b, off, none⟩) n sc := hF 0 (notDst_spec (by kernel_rfl))
          have d0 : ac.tmps[0]?.getD undef = .slice (some ⟨b, off, none⟩) n sc := by rw [← Array.getD_eq_getD_getElem?]; exact e0
          clear hD hF
          go_simp
          exact hK _ _ (Below.refl _ _) rfl
        | 7, _ =>
          intro o ho ac w' hR hF hD K hK
          simp only [List.getElem?_toArray, List.getElem?_cons_zero, List.getElem?_cons_succ, Option.some.injEq] at ho
          subst ho
          have e4 : ac.tmps.getD 4 undef = .int .i64 (k : Int) := hF 4 (notDst_spec (by kernel_rfl))
          have d4 : ac.tmps[4]?.getD undef = .int .i64 (k : Int) := by rw [← Array.getD_eq_getD_getElem?]; exact e4
          clear hD hF
          go_simp
          exact hK _ _ (Below.refl _ _) rfl
        | 8, _ =>
          intro o ho ac w' hR hF hD K hK
          simp only [List.getElem?_toArray, List.getElem?_cons_zero, List.getElem?_cons_succ, Option.some.injEq] at ho
          subst ho
          have e17 : ac.tmps.getD 17 undef = .slice (some ⟨b, off, none⟩) n sc := hD 6 (dep_spec (by kernel_rfl)) 17 rfl
          have d17 : ac.tmps[17]?.getD undef = .slice (some ⟨b, off, none⟩) n sc := by rw [← Array.getD_eq_getD_getElem?]; exact e17
          have e18 : ac.tmps.getD 18 undef = .int .i64 (k : Int) := hD 7 (dep_spec (by kernel_rfl)) 18 rfl
          have d18 : ac.tmps[18]?.getD undef = .int .i64 (k : Int) := by rw [← Array.getD_eq_getD_getElem?]; exact e18
          clear hD hF
          go_simp
          exact hK _ _ (Below.refl _ _) rfl
        | 9, _ =>
          intro o ho ac w' hR hF hD K hK
          simp only [List.getElem?_toArray, List.getElem?_cons_zero, List.getElem?_cons_succ, Option.some.injEq] at ho
          subst ho
          have e19 : ac.tmps.getD 19 undef = .pointer (some ⟨b, off + k * 3, none⟩) := hD 8 (dep_spec (by kernel_rfl)) 19 rfl
          have d19 : ac.tmps[19]?.getD undef = .pointer (some ⟨b, off + k * 3, none⟩) := by rw [← Array.getD_eq_getD_getElem?]; exact e19
          clear hD hF
          go_simp
          exact hK _ _ (Below.refl _ _) rfl
        | 10, _ =>
          intro o ho ac w' hR hF hD K hK
          simp only [List.getElem?_toArray, List.getElem?_cons_zero, List.getElem?_cons_succ, Option.some.injEq] at ho
          subst ho
          have e20 : ac.tmps.getD 20 undef = .pointer (some ⟨b, off + k * 3 + 1, none⟩) := hD 9 (dep_spec (by kernel_rfl)) 20 rfl
          have d20 : ac.tmps[20]?.getD undef = .pointer (some ⟨b, off + k * 3 + 1, none⟩) := by rw [← Array.getD_eq_getD_getElem?]; exact e20
          clear hD hF
          have c0 : w'.cell? ⟨b, off + k * 3 + 1, none⟩ = some (.int .i64 ys) := bcell hR y1
          go_simp
          exact hK _ _ (Below.refl _ _) rfl
        | 11, _ =>
          intro o ho ac w' hR hF hD K hK
          simp only [List.getElem?_toArray, List.getElem?_cons_zero, List.getElem?_cons_succ, Option.some.injEq] at ho
          subst ho
          have e0 : ac.tmps.getD 0 undef = .slice (some ⟨b, off, none⟩) n sc := hF 0 (notDst_spec (by kernel_rfl))
          have d0 : ac.tmps[0]?.getD undef = .slice (some ⟨b, off, none⟩) n sc := by rw [← Array.getD_eq_getD_getElem?]; exact e0
          clear hD hF
          go_simp
          exact hK _ _ (Below.refl _ _) rfl
        | 12, _ =>
          intro o ho ac w' hR hF hD K hK
          simp only [List.getElem?_toArray, List.getElem?_cons_zero, List.getElem?_cons_succ, Option.some.injEq] at ho
          subst ho
          have e4 : ac.tmps.getD 4 undef = .int .i64 (k : Int) := hF 4 (notDst_spec (by kernel_rfl))
          have d4 : ac.tmps[4]?.getD undef = .int .i64 (k : Int) := by rw [← Array.getD_eq_getD_getElem?]; exact e4
          clear hD hF
          go_simp
          exact hK _ _ (Below.refl _ _) rfl
        | 13, _ =>
          intro o ho ac w' hR hF hD K hK
          simp only [List.getElem?_toArray, List.getElem?_cons_zero, List.getElem?_cons_succ, Option.some.injEq] at ho
          subst ho
          have e22 : ac.tmps.getD 22 undef = .slice (some ⟨b, off, none⟩) n sc := hD 11 (dep_spec (by kernel_rfl)) 22 rfl
          have d22 : ac.tmps[22]?.getD undef = .slice (some ⟨b, off, none⟩) n sc := by rw [← Array.getD_eq_getD_getElem?]; exact e22
          have e23 : ac.tmps.getD 23 undef = .int .i64 (k : Int) := hD 12 (dep_spec (by kernel_rfl)) 23 rfl
          have d23 : ac.tmps[23]?.getD undef = .int .i64 (k : Int) := by rw [← Array.getD_eq_getD_getElem?]; exact e23
          clear hD hF
          go_simp
          exact hK _ _ (Below.refl _ _) rfl
        | 14, _ =>
          intro o ho ac w' hR hF hD K hK
          simp only [List.getElem?_toArray, List.getElem?_cons_zero, List.getElem?_cons_succ, Option.some.injEq] at ho
          subst ho
          have e24 : ac.tmps.getD 24 undef = .pointer (some ⟨b, off + k * 3, none⟩) := hD 13 (dep_spec (by kernel_rfl)) 24 rfl
          have d24 : ac.tmps[24]?.getD undef = .pointer (some ⟨b, off + k * 3, none⟩) := by rw [← Array.getD_eq_getD_getElem?]; exact e24
          clear hD hF
          go_simp
          exact hK _ _ (Below.refl _ _) rfl
        | 15, _ =>
          intro o ho ac w' hR hF hD K hK
          simp only [List.getElem?_toArray, List.getElem?_cons_zero, List.getElem?_cons_succ, Option.some.injEq] at ho
          subst ho
          have e25 : ac.tmps.getD 25 undef = .pointer (some ⟨b, off + k * 3 + 2, none⟩) := hD 14 (dep_spec (by kernel_rfl)) 25 rfl
          have d25 : ac.tmps[25]?.getD undef = .pointer (some ⟨b, off + k * 3 + 2, none⟩) := by rw [← Array.getD_eq_getD_getElem?]; exact e25
          clear hD hF
          have c0 : w'.cell? ⟨b, off + k * 3 + 2, none⟩ = some (.int .i64 yt) := bcell hR y2
          go_simp
          exact hK _ _ (Below.refl _ _) rfl
        | 16, _ =>
          intro o ho ac w' hR hF hD K hK
          simp only [List.getElem?_toArray, List.getElem?_cons_zero, List.getElem?_cons_succ, Option.some.injEq] at ho
          subst ho
          have e16 : ac.tmps.getD 16 undef = .int .i64 yn := hD 5 (dep_spec (by kernel_rfl)) 16 rfl
          have d16 : ac.tmps[16]?.getD undef = .int .i64 yn := by rw [← Array.getD_eq_getD_getElem?]; exact e16
          have e21 : ac.tmps.getD 21 undef = .int .i64 ys := hD 10 (dep_spec (by kernel_rfl)) 21 rfl
          have d21 : ac.tmps[21]?.getD undef = .int .i64 ys := by rw [← Array.getD_eq_getD_getElem?]; exact e21
          have e26 : ac.tmps.getD 26 undef = .int .i64 yt := hD 15 (dep_spec (by kernel_rfl)) 26 rfl
          have d26 : ac.tmps[26]?.getD undef = .int .i64 yt := by rw [← Array.getD_eq_getD_getElem?]; exact e26
          clear hD hF
          go_simp
          exact hK _ _ (Below.refl _ _) rfl
        | 17, _ =>
          intro o ho ac w' hR hF hD K hK
          simp only [List.getElem?_toArray, List.getElem?_cons_zero, List.getElem?_cons_succ, Option.some.injEq] at ho
          subst ho
          have e27 : ac.tmps.getD 27 undef = .agg #[.int .i64 yn, .int .i64 ys, .int .i64 yt] := hD 16 (dep_spec (by kernel_rfl)) 27 rfl
          have d27 : ac.tmps[27]?.getD undef = .agg #[.int .i64 yn, .int .i64 ys, .int .i64 yt] := by rw [← Array.getD_eq_getD_getElem?]; exact e27
          clear hD hF
          go_simp
          exact hK _ _ (balloc (Below.refl _ _) _) ⟨w'.heap.size, rfl, hR.size, RowAt.new #[.int .i64 yn, .int .i64 ys, .int .i64 yt] rfl⟩
        | k + 18, hk => omega
      · rintro ⟨tm, df⟩ w' hdf hsz hF hR hV
        obtain rfl : df = [] := hdf
        obtain ⟨q, rfl⟩ := frame31 tm hsz
        have k11 : q 11 = .slice a k c := hV 0 11 (by decide) rfl
        obtain ⟨g, k28, hg, rg⟩ := hV 17 28 (by decide) rfl
        replace k28 : q 28 = _ := k28
        rw [k11, k28]
        clear k11 k28
        have k0 := hF 0 (notDst_spec (by kernel_rfl))
        have k1 := hF 1 (notDst_spec (by kernel_rfl))
        have k2 := hF 2 (notDst_spec (by kernel_rfl))
        have k3 := hF 3 (notDst_spec (by kernel_rfl))
        have k4 := hF 4 (notDst_spec (by kernel_rfl))
        have k5 := hF 5 (notDst_spec (by kernel_rfl))
        have k6 := hF 6 (notDst_spec (by kernel_rfl))
        have k7 := hF 7 (notDst_spec (by kernel_rfl))
        have k8 := hF 8 (notDst_spec (by kernel_rfl))
        have k9 := hF 9 (notDst_spec (by kernel_rfl))
        have k10 := hF 10 (notDst_spec (by kernel_rfl))
        have k29 := hF 29 (notDst_spec (by kernel_rfl))
        have k30 := hF 30 (notDst_spec (by kernel_rfl))
        simp only [Array.getD_eq_getD_getElem?, List.getElem?_toArray, List.getElem?_cons_succ, List.getElem?_cons_zero, Option.getD_some] at k0 k1 k2 k3 k4 k5 k6 k7 k8 k9 k10 k29 k30
        simp only [k0, k1, k2, k3, k4, k5, k6, k7, k8, k9, k10, k29, k30]
        clear k0 k1 k2 k3 k4 k5 k6 k7 k8 k9 k10 k29 k30
        clear hF hV hsz y0 y1 y2
        have OW := Lib.hid (OwnR.keeps (S := fun _ => False) ow.out (Keeps.of_below hR) (fun _ _ h => h))
        have NC : Hid (∀ (j : Nat) (u : Value), ([.int .i64 yn, .int .i64 ys, .int .i64 yt] : List Value)[j]? = some u → w'.cell? ((⟨g, 0, none⟩ : Addr).add j) = some u) := fun j u hj => by rw [add_off, Nat.zero_add, rg.cell j, hj]
        have lo2 := Lib.hid (btrans lo.out hR)
        have x5 : Hid (w.heap.size ≤ w'.heap.size) := by show _ ≤ _; exact lo2.out.size
        change wpAny _ _ _ _ 2 _ _ _
        refine wpAny_ready (rs := [18]) (by kernel_rfl) (by simp) ?_
        refine AllReady.cons (i := 18) rfl (fun K hK => ?_) AllReady.nil
        refine step_appR rfl _ _ 52 TRq (.agg #[.int .i64 0, .int .i64 0, .int .i64 0]) 3 24 rfl Try.underlying52 infoRq rfl (by decide) w.heap.size a k c (qcells (l.take k)) rfl OW.out g 1 [.int .i64 yn, .int .i64 ys, .int .i64 yt] rfl rfl NC.out (by intro u hu; simp at hu; rcases hu with rfl | rfl | rfl <;> rfl) (by have := hl.out; unfold maxLen; omega) (by have := hl.out; omega) x5.out ?_
        intro a3 c3 w3 ho3 hg3 _
        refine hK _ _ ?_
        clear hK K
        have lo3 := Lib.hid (bgrown lo2.out hg3 (fun j hj => (OwnR.lt ow.out hj).1))
        have ow3 : Hid (OwnR w3 w.heap.size TRq 3 a3 (k + 1) c3 (qcells (l.take (k + 1)))) := by
          show OwnR _ _ _ _ _ _ _ _
          rw [hsn.out]
          exact ho3
        clear OW NC x5 ho3 hg3 ow lo lo2 rg hg hR
        refine wpAny_ready (rs := [19]) (by kernel_rfl) (by simp) ?_
        refine AllReady.cons (i := 19) rfl (fun K hK => ?_) AllReady.nil
        go_simp
        refine hK _ _ ?_
        clear hK K
        refine ⟨by kernel_rfl, ?_⟩
        go_wp2
        go_roundw
        case rel => exact ⟨k + 1, a3, c3, by omega, by go_num, rfl, ow3, lo3⟩
        case measure => simp [intOf]; omega
    · obtain rfl : k = n := by omega
      have ow' := ow.out
      rw [List.take_of_length_le (by rw [hn.out]; exact Nat.le_refl _), hn.out] at ow'
      replace ow' := Lib.hid ow'
      clear ow
      go_wp2
      go_ret
      exact ⟨a, c, rfl, ow'.out, lo.out⟩
end Go.Proofs.Ytfcpfcgcfaacnaa
