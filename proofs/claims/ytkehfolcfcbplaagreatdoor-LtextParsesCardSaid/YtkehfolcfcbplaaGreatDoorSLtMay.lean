/- Whether a name may be, walked. Conditions: what the listed variables hold; short texts. -/
import Derived.Test.YtkehfolcfcbplaaGreatDoorSLtW1
import Derived.Test.YtkehfolcfcbplaaGreatDoorSLtQ
import Derived.Test.YtkehfolcfcbplaaGreatDoorSFree
namespace Go.Proofs.YtkehfolcfcbplaaGreatDoor
open Go.RowKit
set_option linter.unusedVariables false
set_option linter.unusedSimpArgs false
theorem list_getN {l : List Value} {n : Nat} (h : l.length = n) : l = (List.range n).map fun i => l.getD i undef := by
 refine List.ext_getElem (by simp [h]) fun i h1 h2 => ?_
 simp [List.getD, List.getElem?_eq_getElem h1]
theorem frame29 (arr : Array Value) (h : arr.size = 29) : ∃ q : Nat → Value, arr = #[q 0, q 1, q 2, q 3, q 4, q 5, q 6, q 7, q 8, q 9, q 10, q 11, q 12, q 13, q 14, q 15, q 16, q 17, q 18, q 19, q 20, q 21, q 22, q 23, q 24, q 25, q 26, q 27, q 28] := by
 refine ⟨fun i => arr.toList.getD i undef, ?_⟩
 have h1 := list_getN (l := arr.toList) (n := 29) (by simpa using h)
 apply Array.ext'
 exact h1
set_option maxRecDepth 8000 in
set_option maxHeartbeats 8000000 in
theorem may_any (w : World) (hd : Door w) (a : Option Addr) (c : Nat) (N : List (List UInt8)) (hN : StrsAt w a N) (hl : N.length ≤ 1000) (hc : N.length ≤ c) (ix : Nat) (hi : ix < N.length) (hs : (N.getD ix []).length ≤ 281474976710656) :
  Calls Tryz.prog 21 #[.slice a N.length c, .int .i64 (ix : Int)] w fun e w' => e = .returned (.bool (mayP N ix)) ∧ Below w.heap.size w w' := by
 obtain ⟨b, off, ea, hcell⟩ := hN (by omega)
 have c1 := hcell ix hi
 obtain ⟨s, hse⟩ : ∃ s : ByteArray, s = ⟨N[ix].toArray⟩ := ⟨_, rfl⟩
 rw [← hse] at c1
 have hgd : N.getD ix [] = N[ix] := by simp [List.getD, List.getElem?_eq_getElem hi]
 have hsd : s.data.toList = N[ix] := by rw [hse]
 have hsz : s.size ≤ 281474976710656 := by
  have : s.size = s.data.toList.length := by rw [Array.length_toList]; rfl
  rw [hgd] at hs
  rw [this, hsd]
  exact hs
 have hr : mayP N ix = (nameP s.data.toList && !(ownF.contains s.data.toList) && !((N.take ix).contains s.data.toList)) := by
  unfold mayP
  rw [hgd, hsd]
 rw [hr]
 have NM := Lib.hid (fun v (hb : Below w.heap.size w v) => name_any v (hd.below hb) s hsz)
 have OW := Lib.hid (fun v (hb : Below w.heap.size w v) => own_word v (hd.below hb) s)
 have hlt : (N.take ix).length = ix := by rw [List.length_take]; omega
 have CT := Lib.hid (fun v (hb : Below w.heap.size w v) => contains_any v a c (N.take ix) ((hN.below hb).take ix) (by omega) s)
 rw [hlt] at CT
 subst ea
 generalize (N.take ix).contains s.data.toList = ct at CT
 generalize ownF.contains s.data.toList = ow at OW
 generalize nameP s.data.toList = nm at NM
 obtain ⟨n, hn⟩ : ∃ n, n = N.length := ⟨_, rfl⟩
 rw [← hn]
 have hiI : (ix : Int) < (n : Int) := by omega
 have hnI : (n : Int) ≤ 1000 := by omega
 have hcI : (n : Int) ≤ (c : Int) := by omega
 clear hr hsd hsz hgd hse hcell hN hl hi hs hd hn hlt hc
 cases nm with
 | false =>
  rw [Bool.false_and, Bool.false_and]
  clear OW CT
  go_enter Tryz.func21, Tryz.ntmps21
  go_upto_region 1 with (fail)
  refine wp_region_kp (by kernel_rfl) 24 [.fix (.slice (some ⟨b, off, none⟩) n c), .fix (.int .i64 (ix : Int)), .fix (.pointer (some ⟨b, off + ix, none⟩)), .fix (.string s), .fix (.bool false), .fix (.bool false), .fix (undef), .fix (undef), .fix (undef), .fix (undef), .fix (undef), .fix (undef), .fix (.bool false), .fix (.bool false), .fix (undef), .fix (undef), .fix (undef), .fix (undef), .fix (undef), .fix (undef), .fix (undef), .fix (undef), .fix (undef), .fix (.bool false)] (by kernel_rfl) (by kernel_rfl) (by kernel_rfl) ?_ ?_
  ·intro i hi
   match i, hi with
   | 0, _ =>
    intro o ho ac w' hR hF hD K hK
    simp only [zqA, zqZ, zqI] at ho
    subst ho
    have e0 : ac.tmps.getD 0 undef = .slice (some ⟨b, off, none⟩) n c := hF 0 (znd (by kernel_rfl))
    have d0 := zgD e0
    clear hD hF
    go_simp
    exact hK _ _ (Below.refl _ _) rfl
   | 1, _ =>
    intro o ho ac w' hR hF hD K hK
    simp only [zqA, zqZ, zqS, zqI] at ho
    subst ho
    have e1 : ac.tmps.getD 1 undef = .int .i64 (ix : Int) := hF 1 (znd (by kernel_rfl))
    have d1 := zgD e1
    clear hD hF
    go_simp
    exact hK _ _ (Below.refl _ _) rfl
   | 2, _ =>
    intro o ho ac w' hR hF hD K hK
    simp only [zqA, zqZ, zqS, zqI] at ho
    subst ho
    have e5 : ac.tmps.getD 5 undef = .slice (some ⟨b, off, none⟩) n c := hD 0 (zdp (by kernel_rfl)) 5 rfl
    have d5 := zgD e5
    have e6 : ac.tmps.getD 6 undef = .int .i64 (ix : Int) := hD 1 (zdp (by kernel_rfl)) 6 rfl
    have d6 := zgD e6
    clear hD hF
    go_simp
    exact hK _ _ (Below.refl _ _) rfl
   | 3, _ =>
    intro o ho ac w' hR hF hD K hK
    simp only [zqA, zqZ, zqS, zqI] at ho
    subst ho
    have e7 : ac.tmps.getD 7 undef = .pointer (some ⟨b, off + ix, none⟩) := hD 2 (zdp (by kernel_rfl)) 7 rfl
    have d7 := zgD e7
    clear hD hF
    have q0 : w'.cell? ⟨b, off + ix, none⟩ = some (.string s) := bcell hR c1
    go_simp
    exact hK _ _ (Below.refl _ _) rfl
   | 4, _ =>
    intro o ho ac w' hR hF hD K hK
    simp only [zqA, zqZ, zqS, zqI] at ho
    subst ho
    have e8 : ac.tmps.getD 8 undef = .string s := hD 3 (zdp (by kernel_rfl)) 8 rfl
    have d8 := zgD e8
    clear hD hF
    go_simp
    refine (NM.out w' hR).mono ?_
    rintro e w2 ⟨rfl, hb2⟩
    exact hK _ _ hb2 rfl
   | 5, _ =>
    intro o ho ac w' hR hF hD K hK
    simp only [zqA, zqZ, zqS, zqI] at ho
    subst ho
    have e9 : ac.tmps.getD 9 undef = .bool false := hD 4 (zdp (by kernel_rfl)) 9 rfl
    have g9 := getD_bool e9
    have d9 := zgD e9
    clear hD hF
    go_simp
    exact hK _ _ (Below.refl _ _) rfl
   | 6, _ =>
    intro o ho ac w' hR hF hD K hK
    simp only [zqA, zqZ, zqS, zqI] at ho
    subst ho
    have e0 : ac.tmps.getD 0 undef = .slice (some ⟨b, off, none⟩) n c := hF 0 (znd (by kernel_rfl))
    have d0 := zgD e0
    have e10 : ac.tmps.getD 10 undef = .bool false := hD 5 (zdp (by kernel_rfl)) 10 rfl
    have g10 := getD_bool e10
    have d10 := zgD e10
    clear hD hF
    go_simp
    exact hK _ _ (Below.refl _ _) rfl
   | 7, _ =>
    intro o ho ac w' hR hF hD K hK
    simp only [zqA, zqZ, zqS, zqI] at ho
    subst ho
    have e1 : ac.tmps.getD 1 undef = .int .i64 (ix : Int) := hF 1 (znd (by kernel_rfl))
    have d1 := zgD e1
    have e10 : ac.tmps.getD 10 undef = .bool false := hD 5 (zdp (by kernel_rfl)) 10 rfl
    have g10 := getD_bool e10
    have d10 := zgD e10
    clear hD hF
    go_simp
    exact hK _ _ (Below.refl _ _) rfl
   | 8, _ =>
    intro o ho ac w' hR hF hD K hK
    simp only [zqA, zqZ, zqS, zqI] at ho
    subst ho
    have e10 : ac.tmps.getD 10 undef = .bool false := hD 5 (zdp (by kernel_rfl)) 10 rfl
    have g10 := getD_bool e10
    have d10 := zgD e10
    have e11 : ac.tmps.getD 11 undef = undef := hD 6 (zdp (by kernel_rfl)) 11 rfl
    have d11 := zgD e11
    have e12 : ac.tmps.getD 12 undef = undef := hD 7 (zdp (by kernel_rfl)) 12 rfl
    have d12 := zgD e12
    clear hD hF
    go_simp
    exact hK _ _ (Below.refl _ _) rfl
   | 9, _ =>
    intro o ho ac w' hR hF hD K hK
    simp only [zqA, zqZ, zqS, zqI] at ho
    subst ho
    have e10 : ac.tmps.getD 10 undef = .bool false := hD 5 (zdp (by kernel_rfl)) 10 rfl
    have g10 := getD_bool e10
    have d10 := zgD e10
    have e13 : ac.tmps.getD 13 undef = undef := hD 8 (zdp (by kernel_rfl)) 13 rfl
    have d13 := zgD e13
    clear hD hF
    go_simp
    exact hK _ _ (Below.refl _ _) rfl
   | 10, _ =>
    intro o ho ac w' hR hF hD K hK
    simp only [zqA, zqZ, zqS, zqI] at ho
    subst ho
    have e10 : ac.tmps.getD 10 undef = .bool false := hD 5 (zdp (by kernel_rfl)) 10 rfl
    have g10 := getD_bool e10
    have d10 := zgD e10
    have e14 : ac.tmps.getD 14 undef = undef := hD 9 (zdp (by kernel_rfl)) 14 rfl
    have d14 := zgD e14
    clear hD hF
    go_simp
    exact hK _ _ (Below.refl _ _) rfl
   | 11, _ =>
    intro o ho ac w' hR hF hD K hK
    simp only [zqA, zqZ, zqS, zqI] at ho
    subst ho
    have e10 : ac.tmps.getD 10 undef = .bool false := hD 5 (zdp (by kernel_rfl)) 10 rfl
    have g10 := getD_bool e10
    have d10 := zgD e10
    have e15 : ac.tmps.getD 15 undef = undef := hD 10 (zdp (by kernel_rfl)) 15 rfl
    have d15 := zgD e15
    clear hD hF
    go_simp
    exact hK _ _ (Below.refl _ _) rfl
   | 12, _ =>
    intro o ho ac w' hR hF hD K hK
    simp only [zqA, zqZ, zqS, zqI] at ho
    subst ho
    have e10 : ac.tmps.getD 10 undef = .bool false := hD 5 (zdp (by kernel_rfl)) 10 rfl
    have g10 := getD_bool e10
    have d10 := zgD e10
    have e16 : ac.tmps.getD 16 undef = undef := hD 11 (zdp (by kernel_rfl)) 16 rfl
    have d16 := zgD e16
    clear hD hF
    go_simp
    exact hK _ _ (Below.refl _ _) rfl
   | 13, _ =>
    intro o ho ac w' hR hF hD K hK
    simp only [zqA, zqZ, zqS, zqI] at ho
    subst ho
    have e15 : ac.tmps.getD 15 undef = undef := hD 10 (zdp (by kernel_rfl)) 15 rfl
    have d15 := zgD e15
    have e17 : ac.tmps.getD 17 undef = .bool false := hD 12 (zdp (by kernel_rfl)) 17 rfl
    have g17 := getD_bool e17
    have d17 := zgD e17
    clear hD hF
    go_simp
    exact hK _ _ (Below.refl _ _) rfl
   | 14, _ =>
    intro o ho ac w' hR hF hD K hK
    simp only [zqA, zqZ, zqS, zqI] at ho
    subst ho
    have e0 : ac.tmps.getD 0 undef = .slice (some ⟨b, off, none⟩) n c := hF 0 (znd (by kernel_rfl))
    have d0 := zgD e0
    have e18 : ac.tmps.getD 18 undef = .bool false := hD 13 (zdp (by kernel_rfl)) 18 rfl
    have g18 := getD_bool e18
    have d18 := zgD e18
    clear hD hF
    go_simp
    exact hK _ _ (Below.refl _ _) rfl
   | 15, _ =>
    intro o ho ac w' hR hF hD K hK
    simp only [zqA, zqZ, zqS, zqI] at ho
    subst ho
    have e1 : ac.tmps.getD 1 undef = .int .i64 (ix : Int) := hF 1 (znd (by kernel_rfl))
    have d1 := zgD e1
    have e18 : ac.tmps.getD 18 undef = .bool false := hD 13 (zdp (by kernel_rfl)) 18 rfl
    have g18 := getD_bool e18
    have d18 := zgD e18
    clear hD hF
    go_simp
    exact hK _ _ (Below.refl _ _) rfl
   | 16, _ =>
    intro o ho ac w' hR hF hD K hK
    simp only [zqA, zqZ, zqS, zqI] at ho
    subst ho
    have e18 : ac.tmps.getD 18 undef = .bool false := hD 13 (zdp (by kernel_rfl)) 18 rfl
    have g18 := getD_bool e18
    have d18 := zgD e18
    have e19 : ac.tmps.getD 19 undef = undef := hD 14 (zdp (by kernel_rfl)) 19 rfl
    have d19 := zgD e19
    have e20 : ac.tmps.getD 20 undef = undef := hD 15 (zdp (by kernel_rfl)) 20 rfl
    have d20 := zgD e20
    clear hD hF
    go_simp
    exact hK _ _ (Below.refl _ _) rfl
   | 17, _ =>
    intro o ho ac w' hR hF hD K hK
    simp only [zqA, zqZ, zqS, zqI] at ho
    subst ho
    have e0 : ac.tmps.getD 0 undef = .slice (some ⟨b, off, none⟩) n c := hF 0 (znd (by kernel_rfl))
    have d0 := zgD e0
    have e18 : ac.tmps.getD 18 undef = .bool false := hD 13 (zdp (by kernel_rfl)) 18 rfl
    have g18 := getD_bool e18
    have d18 := zgD e18
    clear hD hF
    go_simp
    exact hK _ _ (Below.refl _ _) rfl
   | 18, _ =>
    intro o ho ac w' hR hF hD K hK
    simp only [zqA, zqZ, zqS, zqI] at ho
    subst ho
    have e1 : ac.tmps.getD 1 undef = .int .i64 (ix : Int) := hF 1 (znd (by kernel_rfl))
    have d1 := zgD e1
    have e18 : ac.tmps.getD 18 undef = .bool false := hD 13 (zdp (by kernel_rfl)) 18 rfl
    have g18 := getD_bool e18
    have d18 := zgD e18
    clear hD hF
    go_simp
    exact hK _ _ (Below.refl _ _) rfl
   | 19, _ =>
    intro o ho ac w' hR hF hD K hK
    simp only [zqA, zqZ, zqS, zqI] at ho
    subst ho
    have e18 : ac.tmps.getD 18 undef = .bool false := hD 13 (zdp (by kernel_rfl)) 18 rfl
    have g18 := getD_bool e18
    have d18 := zgD e18
    have e22 : ac.tmps.getD 22 undef = undef := hD 17 (zdp (by kernel_rfl)) 22 rfl
    have d22 := zgD e22
    have e23 : ac.tmps.getD 23 undef = undef := hD 18 (zdp (by kernel_rfl)) 23 rfl
    have d23 := zgD e23
    clear hD hF
    go_simp
    exact hK _ _ (Below.refl _ _) rfl
   | 20, _ =>
    intro o ho ac w' hR hF hD K hK
    simp only [zqA, zqZ, zqS, zqI] at ho
    subst ho
    have e18 : ac.tmps.getD 18 undef = .bool false := hD 13 (zdp (by kernel_rfl)) 18 rfl
    have g18 := getD_bool e18
    have d18 := zgD e18
    have e24 : ac.tmps.getD 24 undef = undef := hD 19 (zdp (by kernel_rfl)) 24 rfl
    have d24 := zgD e24
    clear hD hF
    go_simp
    exact hK _ _ (Below.refl _ _) rfl
   | 21, _ =>
    intro o ho ac w' hR hF hD K hK
    simp only [zqA, zqZ, zqS, zqI] at ho
    subst ho
    have e18 : ac.tmps.getD 18 undef = .bool false := hD 13 (zdp (by kernel_rfl)) 18 rfl
    have g18 := getD_bool e18
    have d18 := zgD e18
    have e21 : ac.tmps.getD 21 undef = undef := hD 16 (zdp (by kernel_rfl)) 21 rfl
    have d21 := zgD e21
    have e25 : ac.tmps.getD 25 undef = undef := hD 20 (zdp (by kernel_rfl)) 25 rfl
    have d25 := zgD e25
    clear hD hF
    go_simp
    exact hK _ _ (Below.refl _ _) rfl
   | 22, _ =>
    intro o ho ac w' hR hF hD K hK
    simp only [zqA, zqZ, zqS, zqI] at ho
    subst ho
    have e18 : ac.tmps.getD 18 undef = .bool false := hD 13 (zdp (by kernel_rfl)) 18 rfl
    have g18 := getD_bool e18
    have d18 := zgD e18
    have e26 : ac.tmps.getD 26 undef = undef := hD 21 (zdp (by kernel_rfl)) 26 rfl
    have d26 := zgD e26
    clear hD hF
    go_simp
    exact hK _ _ (Below.refl _ _) rfl
   | 23, _ =>
    intro o ho ac w' hR hF hD K hK
    simp only [zqA, zqZ, zqS, zqI] at ho
    subst ho
    have e18 : ac.tmps.getD 18 undef = .bool false := hD 13 (zdp (by kernel_rfl)) 18 rfl
    have g18 := getD_bool e18
    have d18 := zgD e18
    have e27 : ac.tmps.getD 27 undef = undef := hD 22 (zdp (by kernel_rfl)) 27 rfl
    have d27 := zgD e27
    clear hD hF
    go_simp
    exact hK _ _ (Below.refl _ _) rfl
   | k + 24, hk => omega
  ·rintro ⟨tm, df⟩ w5 hdf hsz hF hR9 hV
   obtain rfl : df = [] := hdf
   obtain ⟨q, rfl⟩ := frame29 tm hsz
   have k28 : q 28 = .bool false := hV 23 28 (by decide) rfl
   simp only [k28]
   clear k28
   have kk := zbk hF [0, 1, 2, 3, 4] (by kernel_rfl)
   simp only [Bk, Array.getD_eq_getD_getElem?, zqA, zqS, zqZ, Option.getD_some] at kk
   simp only [kk]
   clear kk
   clear hF hV hsz
   change wpAny _ _ _ _ 1 _ _ _
   refine wpAny_ready (rs := [24]) (by kernel_rfl) (by simp) ?_
   refine AllReady.cons (i := 24) rfl (fun K hK => ?_) AllReady.nil
   go_simp
   refine hK _ _ ?_
   clear hK K
   refine ⟨by kernel_rfl, ?_⟩
   go_wp2
   go_ret
   exact ⟨rfl, hR9⟩
 | true =>
  rw [Bool.true_and]
  cases ow with
  | true =>
   rw [Bool.not_true, Bool.false_and]
   clear CT
   go_enter Tryz.func21, Tryz.ntmps21
   go_upto_region 1 with (fail)
   refine wp_region_kp (by kernel_rfl) 24 [.fix (.slice (some ⟨b, off, none⟩) n c), .fix (.int .i64 (ix : Int)), .fix (.pointer (some ⟨b, off + ix, none⟩)), .fix (.string s), .fix (.bool true), .fix (.bool true), .fix (.slice (some ⟨b, off, none⟩) n c), .fix (.int .i64 (ix : Int)), .fix (.pointer (some ⟨b, off + ix, none⟩)), .fix (.string s), .fix (.bool true), .fix (.bool false), .fix (.bool false), .fix (.bool false), .fix (undef), .fix (undef), .fix (undef), .fix (undef), .fix (undef), .fix (undef), .fix (undef), .fix (undef), .fix (undef), .fix (.bool false)] (by kernel_rfl) (by kernel_rfl) (by kernel_rfl) ?_ ?_
   ·intro i hi
    match i, hi with
    | 0, _ =>
     intro o ho ac w' hR hF hD K hK
     simp only [zqA, zqZ, zqI] at ho
     subst ho
     have e0 : ac.tmps.getD 0 undef = .slice (some ⟨b, off, none⟩) n c := hF 0 (znd (by kernel_rfl))
     have d0 := zgD e0
     clear hD hF
     go_simp
     exact hK _ _ (Below.refl _ _) rfl
    | 1, _ =>
     intro o ho ac w' hR hF hD K hK
     simp only [zqA, zqZ, zqS, zqI] at ho
     subst ho
     have e1 : ac.tmps.getD 1 undef = .int .i64 (ix : Int) := hF 1 (znd (by kernel_rfl))
     have d1 := zgD e1
     clear hD hF
     go_simp
     exact hK _ _ (Below.refl _ _) rfl
    | 2, _ =>
     intro o ho ac w' hR hF hD K hK
     simp only [zqA, zqZ, zqS, zqI] at ho
     subst ho
     have e5 : ac.tmps.getD 5 undef = .slice (some ⟨b, off, none⟩) n c := hD 0 (zdp (by kernel_rfl)) 5 rfl
     have d5 := zgD e5
     have e6 : ac.tmps.getD 6 undef = .int .i64 (ix : Int) := hD 1 (zdp (by kernel_rfl)) 6 rfl
     have d6 := zgD e6
     clear hD hF
     go_simp
     exact hK _ _ (Below.refl _ _) rfl
    | 3, _ =>
     intro o ho ac w' hR hF hD K hK
     simp only [zqA, zqZ, zqS, zqI] at ho
     subst ho
     have e7 : ac.tmps.getD 7 undef = .pointer (some ⟨b, off + ix, none⟩) := hD 2 (zdp (by kernel_rfl)) 7 rfl
     have d7 := zgD e7
     clear hD hF
     have q0 : w'.cell? ⟨b, off + ix, none⟩ = some (.string s) := bcell hR c1
     go_simp
     exact hK _ _ (Below.refl _ _) rfl
    | 4, _ =>
     intro o ho ac w' hR hF hD K hK
     simp only [zqA, zqZ, zqS, zqI] at ho
     subst ho
     have e8 : ac.tmps.getD 8 undef = .string s := hD 3 (zdp (by kernel_rfl)) 8 rfl
     have d8 := zgD e8
     clear hD hF
     go_simp
     refine (NM.out w' hR).mono ?_
     rintro e w2 ⟨rfl, hb2⟩
     exact hK _ _ hb2 rfl
    | 5, _ =>
     intro o ho ac w' hR hF hD K hK
     simp only [zqA, zqZ, zqS, zqI] at ho
     subst ho
     have e9 : ac.tmps.getD 9 undef = .bool true := hD 4 (zdp (by kernel_rfl)) 9 rfl
     have g9 := getD_bool e9
     have d9 := zgD e9
     clear hD hF
     go_simp
     exact hK _ _ (Below.refl _ _) rfl
    | 6, _ =>
     intro o ho ac w' hR hF hD K hK
     simp only [zqA, zqZ, zqS, zqI] at ho
     subst ho
     have e0 : ac.tmps.getD 0 undef = .slice (some ⟨b, off, none⟩) n c := hF 0 (znd (by kernel_rfl))
     have d0 := zgD e0
     have e10 : ac.tmps.getD 10 undef = .bool true := hD 5 (zdp (by kernel_rfl)) 10 rfl
     have g10 := getD_bool e10
     have d10 := zgD e10
     clear hD hF
     go_simp
     exact hK _ _ (Below.refl _ _) rfl
    | 7, _ =>
     intro o ho ac w' hR hF hD K hK
     simp only [zqA, zqZ, zqS, zqI] at ho
     subst ho
     have e1 : ac.tmps.getD 1 undef = .int .i64 (ix : Int) := hF 1 (znd (by kernel_rfl))
     have d1 := zgD e1
     have e10 : ac.tmps.getD 10 undef = .bool true := hD 5 (zdp (by kernel_rfl)) 10 rfl
     have g10 := getD_bool e10
     have d10 := zgD e10
     clear hD hF
     go_simp
     exact hK _ _ (Below.refl _ _) rfl
    | 8, _ =>
     intro o ho ac w' hR hF hD K hK
     simp only [zqA, zqZ, zqS, zqI] at ho
     subst ho
     have e10 : ac.tmps.getD 10 undef = .bool true := hD 5 (zdp (by kernel_rfl)) 10 rfl
     have g10 := getD_bool e10
     have d10 := zgD e10
     have e11 : ac.tmps.getD 11 undef = .slice (some ⟨b, off, none⟩) n c := hD 6 (zdp (by kernel_rfl)) 11 rfl
     have d11 := zgD e11
     have e12 : ac.tmps.getD 12 undef = .int .i64 (ix : Int) := hD 7 (zdp (by kernel_rfl)) 12 rfl
     have d12 := zgD e12
     clear hD hF
     go_simp
     exact hK _ _ (Below.refl _ _) rfl
    | 9, _ =>
     intro o ho ac w' hR hF hD K hK
     simp only [zqA, zqZ, zqS, zqI] at ho
     subst ho
     have e10 : ac.tmps.getD 10 undef = .bool true := hD 5 (zdp (by kernel_rfl)) 10 rfl
     have g10 := getD_bool e10
     have d10 := zgD e10
     have e13 : ac.tmps.getD 13 undef = .pointer (some ⟨b, off + ix, none⟩) := hD 8 (zdp (by kernel_rfl)) 13 rfl
     have d13 := zgD e13
     clear hD hF
     have q0 : w'.cell? ⟨b, off + ix, none⟩ = some (.string s) := bcell hR c1
     go_simp
     exact hK _ _ (Below.refl _ _) rfl
    | 10, _ =>
     intro o ho ac w' hR hF hD K hK
     simp only [zqA, zqZ, zqS, zqI] at ho
     subst ho
     have e10 : ac.tmps.getD 10 undef = .bool true := hD 5 (zdp (by kernel_rfl)) 10 rfl
     have g10 := getD_bool e10
     have d10 := zgD e10
     have e14 : ac.tmps.getD 14 undef = .string s := hD 9 (zdp (by kernel_rfl)) 14 rfl
     have d14 := zgD e14
     clear hD hF
     go_simp
     refine (OW.out w' hR).mono ?_
     rintro e w2 ⟨rfl, hb2⟩
     exact hK _ _ hb2 rfl
    | 11, _ =>
     intro o ho ac w' hR hF hD K hK
     simp only [zqA, zqZ, zqS, zqI] at ho
     subst ho
     have e10 : ac.tmps.getD 10 undef = .bool true := hD 5 (zdp (by kernel_rfl)) 10 rfl
     have g10 := getD_bool e10
     have d10 := zgD e10
     have e15 : ac.tmps.getD 15 undef = .bool true := hD 10 (zdp (by kernel_rfl)) 15 rfl
     have g15 := getD_bool e15
     have d15 := zgD e15
     clear hD hF
     go_simp
     exact hK _ _ (Below.refl _ _) rfl
    | 12, _ =>
     intro o ho ac w' hR hF hD K hK
     simp only [zqA, zqZ, zqS, zqI] at ho
     subst ho
     have e10 : ac.tmps.getD 10 undef = .bool true := hD 5 (zdp (by kernel_rfl)) 10 rfl
     have g10 := getD_bool e10
     have d10 := zgD e10
     have e16 : ac.tmps.getD 16 undef = .bool false := hD 11 (zdp (by kernel_rfl)) 16 rfl
     have g16 := getD_bool e16
     have d16 := zgD e16
     clear hD hF
     go_simp
     exact hK _ _ (Below.refl _ _) rfl
    | 13, _ =>
     intro o ho ac w' hR hF hD K hK
     simp only [zqA, zqZ, zqS, zqI] at ho
     subst ho
     have e15 : ac.tmps.getD 15 undef = .bool true := hD 10 (zdp (by kernel_rfl)) 15 rfl
     have g15 := getD_bool e15
     have d15 := zgD e15
     have e17 : ac.tmps.getD 17 undef = .bool false := hD 12 (zdp (by kernel_rfl)) 17 rfl
     have g17 := getD_bool e17
     have d17 := zgD e17
     clear hD hF
     go_simp
     exact hK _ _ (Below.refl _ _) rfl
    | 14, _ =>
     intro o ho ac w' hR hF hD K hK
     simp only [zqA, zqZ, zqS, zqI] at ho
     subst ho
     have e0 : ac.tmps.getD 0 undef = .slice (some ⟨b, off, none⟩) n c := hF 0 (znd (by kernel_rfl))
     have d0 := zgD e0
     have e18 : ac.tmps.getD 18 undef = .bool false := hD 13 (zdp (by kernel_rfl)) 18 rfl
     have g18 := getD_bool e18
     have d18 := zgD e18
     clear hD hF
     go_simp
     exact hK _ _ (Below.refl _ _) rfl
    | 15, _ =>
     intro o ho ac w' hR hF hD K hK
     simp only [zqA, zqZ, zqS, zqI] at ho
     subst ho
     have e1 : ac.tmps.getD 1 undef = .int .i64 (ix : Int) := hF 1 (znd (by kernel_rfl))
     have d1 := zgD e1
     have e18 : ac.tmps.getD 18 undef = .bool false := hD 13 (zdp (by kernel_rfl)) 18 rfl
     have g18 := getD_bool e18
     have d18 := zgD e18
     clear hD hF
     go_simp
     exact hK _ _ (Below.refl _ _) rfl
    | 16, _ =>
     intro o ho ac w' hR hF hD K hK
     simp only [zqA, zqZ, zqS, zqI] at ho
     subst ho
     have e18 : ac.tmps.getD 18 undef = .bool false := hD 13 (zdp (by kernel_rfl)) 18 rfl
     have g18 := getD_bool e18
     have d18 := zgD e18
     have e19 : ac.tmps.getD 19 undef = undef := hD 14 (zdp (by kernel_rfl)) 19 rfl
     have d19 := zgD e19
     have e20 : ac.tmps.getD 20 undef = undef := hD 15 (zdp (by kernel_rfl)) 20 rfl
     have d20 := zgD e20
     clear hD hF
     go_simp
     exact hK _ _ (Below.refl _ _) rfl
    | 17, _ =>
     intro o ho ac w' hR hF hD K hK
     simp only [zqA, zqZ, zqS, zqI] at ho
     subst ho
     have e0 : ac.tmps.getD 0 undef = .slice (some ⟨b, off, none⟩) n c := hF 0 (znd (by kernel_rfl))
     have d0 := zgD e0
     have e18 : ac.tmps.getD 18 undef = .bool false := hD 13 (zdp (by kernel_rfl)) 18 rfl
     have g18 := getD_bool e18
     have d18 := zgD e18
     clear hD hF
     go_simp
     exact hK _ _ (Below.refl _ _) rfl
    | 18, _ =>
     intro o ho ac w' hR hF hD K hK
     simp only [zqA, zqZ, zqS, zqI] at ho
     subst ho
     have e1 : ac.tmps.getD 1 undef = .int .i64 (ix : Int) := hF 1 (znd (by kernel_rfl))
     have d1 := zgD e1
     have e18 : ac.tmps.getD 18 undef = .bool false := hD 13 (zdp (by kernel_rfl)) 18 rfl
     have g18 := getD_bool e18
     have d18 := zgD e18
     clear hD hF
     go_simp
     exact hK _ _ (Below.refl _ _) rfl
    | 19, _ =>
     intro o ho ac w' hR hF hD K hK
     simp only [zqA, zqZ, zqS, zqI] at ho
     subst ho
     have e18 : ac.tmps.getD 18 undef = .bool false := hD 13 (zdp (by kernel_rfl)) 18 rfl
     have g18 := getD_bool e18
     have d18 := zgD e18
     have e22 : ac.tmps.getD 22 undef = undef := hD 17 (zdp (by kernel_rfl)) 22 rfl
     have d22 := zgD e22
     have e23 : ac.tmps.getD 23 undef = undef := hD 18 (zdp (by kernel_rfl)) 23 rfl
     have d23 := zgD e23
     clear hD hF
     go_simp
     exact hK _ _ (Below.refl _ _) rfl
    | 20, _ =>
     intro o ho ac w' hR hF hD K hK
     simp only [zqA, zqZ, zqS, zqI] at ho
     subst ho
     have e18 : ac.tmps.getD 18 undef = .bool false := hD 13 (zdp (by kernel_rfl)) 18 rfl
     have g18 := getD_bool e18
     have d18 := zgD e18
     have e24 : ac.tmps.getD 24 undef = undef := hD 19 (zdp (by kernel_rfl)) 24 rfl
     have d24 := zgD e24
     clear hD hF
     go_simp
     exact hK _ _ (Below.refl _ _) rfl
    | 21, _ =>
     intro o ho ac w' hR hF hD K hK
     simp only [zqA, zqZ, zqS, zqI] at ho
     subst ho
     have e18 : ac.tmps.getD 18 undef = .bool false := hD 13 (zdp (by kernel_rfl)) 18 rfl
     have g18 := getD_bool e18
     have d18 := zgD e18
     have e21 : ac.tmps.getD 21 undef = undef := hD 16 (zdp (by kernel_rfl)) 21 rfl
     have d21 := zgD e21
     have e25 : ac.tmps.getD 25 undef = undef := hD 20 (zdp (by kernel_rfl)) 25 rfl
     have d25 := zgD e25
     clear hD hF
     go_simp
     exact hK _ _ (Below.refl _ _) rfl
    | 22, _ =>
     intro o ho ac w' hR hF hD K hK
     simp only [zqA, zqZ, zqS, zqI] at ho
     subst ho
     have e18 : ac.tmps.getD 18 undef = .bool false := hD 13 (zdp (by kernel_rfl)) 18 rfl
     have g18 := getD_bool e18
     have d18 := zgD e18
     have e26 : ac.tmps.getD 26 undef = undef := hD 21 (zdp (by kernel_rfl)) 26 rfl
     have d26 := zgD e26
     clear hD hF
     go_simp
     exact hK _ _ (Below.refl _ _) rfl
    | 23, _ =>
     intro o ho ac w' hR hF hD K hK
     simp only [zqA, zqZ, zqS, zqI] at ho
     subst ho
     have e18 : ac.tmps.getD 18 undef = .bool false := hD 13 (zdp (by kernel_rfl)) 18 rfl
     have g18 := getD_bool e18
     have d18 := zgD e18
     have e27 : ac.tmps.getD 27 undef = undef := hD 22 (zdp (by kernel_rfl)) 27 rfl
     have d27 := zgD e27
     clear hD hF
     go_simp
     exact hK _ _ (Below.refl _ _) rfl
    | k + 24, hk => omega
   ·rintro ⟨tm, df⟩ w5 hdf hsz hF hR9 hV
    obtain rfl : df = [] := hdf
    obtain ⟨q, rfl⟩ := frame29 tm hsz
    have k28 : q 28 = .bool false := hV 23 28 (by decide) rfl
    simp only [k28]
    clear k28
    have kk := zbk hF [0, 1, 2, 3, 4] (by kernel_rfl)
    simp only [Bk, Array.getD_eq_getD_getElem?, zqA, zqS, zqZ, Option.getD_some] at kk
    simp only [kk]
    clear kk
    clear hF hV hsz
    change wpAny _ _ _ _ 1 _ _ _
    refine wpAny_ready (rs := [24]) (by kernel_rfl) (by simp) ?_
    refine AllReady.cons (i := 24) rfl (fun K hK => ?_) AllReady.nil
    go_simp
    refine hK _ _ ?_
    clear hK K
    refine ⟨by kernel_rfl, ?_⟩
    go_wp2
    go_ret
    exact ⟨rfl, hR9⟩
  | false =>
   rw [Bool.not_false, Bool.true_and]
   go_enter Tryz.func21, Tryz.ntmps21
   go_upto_region 1 with (fail)
   refine wp_region_kp (by kernel_rfl) 24 [.fix (.slice (some ⟨b, off, none⟩) n c), .fix (.int .i64 (ix : Int)), .fix (.pointer (some ⟨b, off + ix, none⟩)), .fix (.string s), .fix (.bool true), .fix (.bool true), .fix (.slice (some ⟨b, off, none⟩) n c), .fix (.int .i64 (ix : Int)), .fix (.pointer (some ⟨b, off + ix, none⟩)), .fix (.string s), .fix (.bool false), .fix (.bool true), .fix (.bool true), .fix (.bool true), .fix (.slice (some ⟨b, off, none⟩) n c), .fix (.int .i64 (ix : Int)), .fix (.slice (some ⟨b, off, none⟩) ix c), .fix (.slice (some ⟨b, off, none⟩) n c), .fix (.int .i64 (ix : Int)), .fix (.pointer (some ⟨b, off + ix, none⟩)), .fix (.string s), .fix (.bool ct), .fix (.bool (!ct)), .fix (.bool (!ct))] (by kernel_rfl) (by kernel_rfl) (by kernel_rfl) ?_ ?_
   ·intro i hi
    match i, hi with
    | 0, _ =>
     intro o ho ac w' hR hF hD K hK
     simp only [zqA, zqZ, zqI] at ho
     subst ho
     have e0 : ac.tmps.getD 0 undef = .slice (some ⟨b, off, none⟩) n c := hF 0 (znd (by kernel_rfl))
     have d0 := zgD e0
     clear hD hF
     go_simp
     exact hK _ _ (Below.refl _ _) rfl
    | 1, _ =>
     intro o ho ac w' hR hF hD K hK
     simp only [zqA, zqZ, zqS, zqI] at ho
     subst ho
     have e1 : ac.tmps.getD 1 undef = .int .i64 (ix : Int) := hF 1 (znd (by kernel_rfl))
     have d1 := zgD e1
     clear hD hF
     go_simp
     exact hK _ _ (Below.refl _ _) rfl
    | 2, _ =>
     intro o ho ac w' hR hF hD K hK
     simp only [zqA, zqZ, zqS, zqI] at ho
     subst ho
     have e5 : ac.tmps.getD 5 undef = .slice (some ⟨b, off, none⟩) n c := hD 0 (zdp (by kernel_rfl)) 5 rfl
     have d5 := zgD e5
     have e6 : ac.tmps.getD 6 undef = .int .i64 (ix : Int) := hD 1 (zdp (by kernel_rfl)) 6 rfl
     have d6 := zgD e6
     clear hD hF
     go_simp
     exact hK _ _ (Below.refl _ _) rfl
    | 3, _ =>
     intro o ho ac w' hR hF hD K hK
     simp only [zqA, zqZ, zqS, zqI] at ho
     subst ho
     have e7 : ac.tmps.getD 7 undef = .pointer (some ⟨b, off + ix, none⟩) := hD 2 (zdp (by kernel_rfl)) 7 rfl
     have d7 := zgD e7
     clear hD hF
     have q0 : w'.cell? ⟨b, off + ix, none⟩ = some (.string s) := bcell hR c1
     go_simp
     exact hK _ _ (Below.refl _ _) rfl
    | 4, _ =>
     intro o ho ac w' hR hF hD K hK
     simp only [zqA, zqZ, zqS, zqI] at ho
     subst ho
     have e8 : ac.tmps.getD 8 undef = .string s := hD 3 (zdp (by kernel_rfl)) 8 rfl
     have d8 := zgD e8
     clear hD hF
     go_simp
     refine (NM.out w' hR).mono ?_
     rintro e w2 ⟨rfl, hb2⟩
     exact hK _ _ hb2 rfl
    | 5, _ =>
     intro o ho ac w' hR hF hD K hK
     simp only [zqA, zqZ, zqS, zqI] at ho
     subst ho
     have e9 : ac.tmps.getD 9 undef = .bool true := hD 4 (zdp (by kernel_rfl)) 9 rfl
     have g9 := getD_bool e9
     have d9 := zgD e9
     clear hD hF
     go_simp
     exact hK _ _ (Below.refl _ _) rfl
    | 6, _ =>
     intro o ho ac w' hR hF hD K hK
     simp only [zqA, zqZ, zqS, zqI] at ho
     subst ho
     have e0 : ac.tmps.getD 0 undef = .slice (some ⟨b, off, none⟩) n c := hF 0 (znd (by kernel_rfl))
     have d0 := zgD e0
     have e10 : ac.tmps.getD 10 undef = .bool true := hD 5 (zdp (by kernel_rfl)) 10 rfl
     have g10 := getD_bool e10
     have d10 := zgD e10
     clear hD hF
     go_simp
     exact hK _ _ (Below.refl _ _) rfl
    | 7, _ =>
     intro o ho ac w' hR hF hD K hK
     simp only [zqA, zqZ, zqS, zqI] at ho
     subst ho
     have e1 : ac.tmps.getD 1 undef = .int .i64 (ix : Int) := hF 1 (znd (by kernel_rfl))
     have d1 := zgD e1
     have e10 : ac.tmps.getD 10 undef = .bool true := hD 5 (zdp (by kernel_rfl)) 10 rfl
     have g10 := getD_bool e10
     have d10 := zgD e10
     clear hD hF
     go_simp
     exact hK _ _ (Below.refl _ _) rfl
    | 8, _ =>
     intro o ho ac w' hR hF hD K hK
     simp only [zqA, zqZ, zqS, zqI] at ho
     subst ho
     have e10 : ac.tmps.getD 10 undef = .bool true := hD 5 (zdp (by kernel_rfl)) 10 rfl
     have g10 := getD_bool e10
     have d10 := zgD e10
     have e11 : ac.tmps.getD 11 undef = .slice (some ⟨b, off, none⟩) n c := hD 6 (zdp (by kernel_rfl)) 11 rfl
     have d11 := zgD e11
     have e12 : ac.tmps.getD 12 undef = .int .i64 (ix : Int) := hD 7 (zdp (by kernel_rfl)) 12 rfl
     have d12 := zgD e12
     clear hD hF
     go_simp
     exact hK _ _ (Below.refl _ _) rfl
    | 9, _ =>
     intro o ho ac w' hR hF hD K hK
     simp only [zqA, zqZ, zqS, zqI] at ho
     subst ho
     have e10 : ac.tmps.getD 10 undef = .bool true := hD 5 (zdp (by kernel_rfl)) 10 rfl
     have g10 := getD_bool e10
     have d10 := zgD e10
     have e13 : ac.tmps.getD 13 undef = .pointer (some ⟨b, off + ix, none⟩) := hD 8 (zdp (by kernel_rfl)) 13 rfl
     have d13 := zgD e13
     clear hD hF
     have q0 : w'.cell? ⟨b, off + ix, none⟩ = some (.string s) := bcell hR c1
     go_simp
     exact hK _ _ (Below.refl _ _) rfl
    | 10, _ =>
     intro o ho ac w' hR hF hD K hK
     simp only [zqA, zqZ, zqS, zqI] at ho
     subst ho
     have e10 : ac.tmps.getD 10 undef = .bool true := hD 5 (zdp (by kernel_rfl)) 10 rfl
     have g10 := getD_bool e10
     have d10 := zgD e10
     have e14 : ac.tmps.getD 14 undef = .string s := hD 9 (zdp (by kernel_rfl)) 14 rfl
     have d14 := zgD e14
     clear hD hF
     go_simp
     refine (OW.out w' hR).mono ?_
     rintro e w2 ⟨rfl, hb2⟩
     exact hK _ _ hb2 rfl
    | 11, _ =>
     intro o ho ac w' hR hF hD K hK
     simp only [zqA, zqZ, zqS, zqI] at ho
     subst ho
     have e10 : ac.tmps.getD 10 undef = .bool true := hD 5 (zdp (by kernel_rfl)) 10 rfl
     have g10 := getD_bool e10
     have d10 := zgD e10
     have e15 : ac.tmps.getD 15 undef = .bool false := hD 10 (zdp (by kernel_rfl)) 15 rfl
     have g15 := getD_bool e15
     have d15 := zgD e15
     clear hD hF
     go_simp
     exact hK _ _ (Below.refl _ _) rfl
    | 12, _ =>
     intro o ho ac w' hR hF hD K hK
     simp only [zqA, zqZ, zqS, zqI] at ho
     subst ho
     have e10 : ac.tmps.getD 10 undef = .bool true := hD 5 (zdp (by kernel_rfl)) 10 rfl
     have g10 := getD_bool e10
     have d10 := zgD e10
     have e16 : ac.tmps.getD 16 undef = .bool true := hD 11 (zdp (by kernel_rfl)) 16 rfl
     have g16 := getD_bool e16
     have d16 := zgD e16
     clear hD hF
     go_simp
     exact hK _ _ (Below.refl _ _) rfl
    | 13, _ =>
     intro o ho ac w' hR hF hD K hK
     simp only [zqA, zqZ, zqS, zqI] at ho
     subst ho
     have e15 : ac.tmps.getD 15 undef = .bool false := hD 10 (zdp (by kernel_rfl)) 15 rfl
     have g15 := getD_bool e15
     have d15 := zgD e15
     have e17 : ac.tmps.getD 17 undef = .bool true := hD 12 (zdp (by kernel_rfl)) 17 rfl
     have g17 := getD_bool e17
     have d17 := zgD e17
     clear hD hF
     go_simp
     exact hK _ _ (Below.refl _ _) rfl
    | 14, _ =>
     intro o ho ac w' hR hF hD K hK
     simp only [zqA, zqZ, zqS, zqI] at ho
     subst ho
     have e0 : ac.tmps.getD 0 undef = .slice (some ⟨b, off, none⟩) n c := hF 0 (znd (by kernel_rfl))
     have d0 := zgD e0
     have e18 : ac.tmps.getD 18 undef = .bool true := hD 13 (zdp (by kernel_rfl)) 18 rfl
     have g18 := getD_bool e18
     have d18 := zgD e18
     clear hD hF
     go_simp
     exact hK _ _ (Below.refl _ _) rfl
    | 15, _ =>
     intro o ho ac w' hR hF hD K hK
     simp only [zqA, zqZ, zqS, zqI] at ho
     subst ho
     have e1 : ac.tmps.getD 1 undef = .int .i64 (ix : Int) := hF 1 (znd (by kernel_rfl))
     have d1 := zgD e1
     have e18 : ac.tmps.getD 18 undef = .bool true := hD 13 (zdp (by kernel_rfl)) 18 rfl
     have g18 := getD_bool e18
     have d18 := zgD e18
     clear hD hF
     go_simp
     exact hK _ _ (Below.refl _ _) rfl
    | 16, _ =>
     intro o ho ac w' hR hF hD K hK
     simp only [zqA, zqZ, zqS, zqI] at ho
     subst ho
     have e18 : ac.tmps.getD 18 undef = .bool true := hD 13 (zdp (by kernel_rfl)) 18 rfl
     have g18 := getD_bool e18
     have d18 := zgD e18
     have e19 : ac.tmps.getD 19 undef = .slice (some ⟨b, off, none⟩) n c := hD 14 (zdp (by kernel_rfl)) 19 rfl
     have d19 := zgD e19
     have e20 : ac.tmps.getD 20 undef = .int .i64 (ix : Int) := hD 15 (zdp (by kernel_rfl)) 20 rfl
     have d20 := zgD e20
     clear hD hF
     have hi1 : (ix : Int) ≤ (n : Int) := by omega
     have hi2 : (0 : Int) ≤ (ix : Int) := by omega
     have hi3 : (ix : Int) ≤ (c : Int) := by omega
     go_simp
     exact hK _ _ (Below.refl _ _) rfl
    | 17, _ =>
     intro o ho ac w' hR hF hD K hK
     simp only [zqA, zqZ, zqS, zqI] at ho
     subst ho
     have e0 : ac.tmps.getD 0 undef = .slice (some ⟨b, off, none⟩) n c := hF 0 (znd (by kernel_rfl))
     have d0 := zgD e0
     have e18 : ac.tmps.getD 18 undef = .bool true := hD 13 (zdp (by kernel_rfl)) 18 rfl
     have g18 := getD_bool e18
     have d18 := zgD e18
     clear hD hF
     go_simp
     exact hK _ _ (Below.refl _ _) rfl
    | 18, _ =>
     intro o ho ac w' hR hF hD K hK
     simp only [zqA, zqZ, zqS, zqI] at ho
     subst ho
     have e1 : ac.tmps.getD 1 undef = .int .i64 (ix : Int) := hF 1 (znd (by kernel_rfl))
     have d1 := zgD e1
     have e18 : ac.tmps.getD 18 undef = .bool true := hD 13 (zdp (by kernel_rfl)) 18 rfl
     have g18 := getD_bool e18
     have d18 := zgD e18
     clear hD hF
     go_simp
     exact hK _ _ (Below.refl _ _) rfl
    | 19, _ =>
     intro o ho ac w' hR hF hD K hK
     simp only [zqA, zqZ, zqS, zqI] at ho
     subst ho
     have e18 : ac.tmps.getD 18 undef = .bool true := hD 13 (zdp (by kernel_rfl)) 18 rfl
     have g18 := getD_bool e18
     have d18 := zgD e18
     have e22 : ac.tmps.getD 22 undef = .slice (some ⟨b, off, none⟩) n c := hD 17 (zdp (by kernel_rfl)) 22 rfl
     have d22 := zgD e22
     have e23 : ac.tmps.getD 23 undef = .int .i64 (ix : Int) := hD 18 (zdp (by kernel_rfl)) 23 rfl
     have d23 := zgD e23
     clear hD hF
     go_simp
     exact hK _ _ (Below.refl _ _) rfl
    | 20, _ =>
     intro o ho ac w' hR hF hD K hK
     simp only [zqA, zqZ, zqS, zqI] at ho
     subst ho
     have e18 : ac.tmps.getD 18 undef = .bool true := hD 13 (zdp (by kernel_rfl)) 18 rfl
     have g18 := getD_bool e18
     have d18 := zgD e18
     have e24 : ac.tmps.getD 24 undef = .pointer (some ⟨b, off + ix, none⟩) := hD 19 (zdp (by kernel_rfl)) 24 rfl
     have d24 := zgD e24
     clear hD hF
     have q0 : w'.cell? ⟨b, off + ix, none⟩ = some (.string s) := bcell hR c1
     go_simp
     exact hK _ _ (Below.refl _ _) rfl
    | 21, _ =>
     intro o ho ac w' hR hF hD K hK
     simp only [zqA, zqZ, zqS, zqI] at ho
     subst ho
     have e18 : ac.tmps.getD 18 undef = .bool true := hD 13 (zdp (by kernel_rfl)) 18 rfl
     have g18 := getD_bool e18
     have d18 := zgD e18
     have e21 : ac.tmps.getD 21 undef = .slice (some ⟨b, off, none⟩) ix c := hD 16 (zdp (by kernel_rfl)) 21 rfl
     have d21 := zgD e21
     have e25 : ac.tmps.getD 25 undef = .string s := hD 20 (zdp (by kernel_rfl)) 25 rfl
     have d25 := zgD e25
     clear hD hF
     go_simp
     refine (CT.out w' hR).mono ?_
     rintro e w2 ⟨rfl, rfl⟩
     exact hK _ _ (Below.refl _ _) rfl
    | 22, _ =>
     intro o ho ac w' hR hF hD K hK
     simp only [zqA, zqZ, zqS, zqI] at ho
     subst ho
     have e18 : ac.tmps.getD 18 undef = .bool true := hD 13 (zdp (by kernel_rfl)) 18 rfl
     have g18 := getD_bool e18
     have d18 := zgD e18
     have e26 : ac.tmps.getD 26 undef = .bool ct := hD 21 (zdp (by kernel_rfl)) 26 rfl
     have g26 := getD_bool e26
     have d26 := zgD e26
     clear hD hF
     go_simp
     exact hK _ _ (Below.refl _ _) rfl
    | 23, _ =>
     intro o ho ac w' hR hF hD K hK
     simp only [zqA, zqZ, zqS, zqI] at ho
     subst ho
     have e18 : ac.tmps.getD 18 undef = .bool true := hD 13 (zdp (by kernel_rfl)) 18 rfl
     have g18 := getD_bool e18
     have d18 := zgD e18
     have e27 : ac.tmps.getD 27 undef = .bool (!ct) := hD 22 (zdp (by kernel_rfl)) 27 rfl
     have g27 := getD_bool e27
     have d27 := zgD e27
     clear hD hF
     go_simp
     exact hK _ _ (Below.refl _ _) rfl
    | k + 24, hk => omega
   ·rintro ⟨tm, df⟩ w5 hdf hsz hF hR9 hV
    obtain rfl : df = [] := hdf
    obtain ⟨q, rfl⟩ := frame29 tm hsz
    have k28 : q 28 = .bool (!ct) := hV 23 28 (by decide) rfl
    simp only [k28]
    clear k28
    have kk := zbk hF [0, 1, 2, 3, 4] (by kernel_rfl)
    simp only [Bk, Array.getD_eq_getD_getElem?, zqA, zqS, zqZ, Option.getD_some] at kk
    simp only [kk]
    clear kk
    clear hF hV hsz
    change wpAny _ _ _ _ 1 _ _ _
    refine wpAny_ready (rs := [24]) (by kernel_rfl) (by simp) ?_
    refine AllReady.cons (i := 24) rfl (fun K hK => ?_) AllReady.nil
    go_simp
    refine hK _ _ ?_
    clear hK K
    refine ⟨by kernel_rfl, ?_⟩
    go_wp2
    go_ret
    exact ⟨rfl, hR9⟩
end Go.Proofs.YtkehfolcfcbplaaGreatDoor
