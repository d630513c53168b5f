/- An automaton's text, walked: the document's. Conditions: not too many numbers. -/
import Derived.Test.YtjacphcnanopjaaDoorAtR
namespace Go.Proofs.YtjacphcnanopjaaDoor
open Go.Shelf Go.RowKit
set_option linter.unusedVariables false
set_option linter.unusedSimpArgs false

theorem frame49 (arr : Array Value) (h : arr.size = 49) : ∃ q : Nat → Value, arr = #[q 0, q 1, q 2, q 3, q 4, q 5, q 6, q 7, q 8, q 9, q 10, q 11, q 12, q 13, q 14, q 15, q 16, q 17, q 18, q 19, q 20, q 21, q 22, q 23, q 24, q 25, q 26, q 27, q 28, q 29, q 30, q 31, q 32, q 33, q 34, q 35, q 36, q 37, q 38, q 39, q 40, q 41, q 42, q 43, q 44, q 45, q 46, q 47, q 48] := by
  refine ⟨fun i => arr.toList.getD i undef, ?_⟩
  have h1 := list_getN (l := arr.toList) (n := 49) (by simpa using h)
  apply Array.ext'
  exact h1

theorem sz_of {s : ByteArray} {l : List UInt8} (h : s = ⟨l.toArray⟩) : s.size = l.length := by rw [h]; exact List.size_toArray
theorem whole_two (A : AU) (dx rs : ByteArray) (hd : dx = ⟨(Lib.itoa A.sets).toArray⟩) (hr : rs = ⟨(fldW [] A.init).toArray⟩) : (⟨#[97, 117, 116, 111, 32]⟩ : ByteArray) ++ dx ++ (⟨#[10, 105, 110, 105, 116]⟩ : ByteArray) ++ rs ++ (⟨#[10]⟩ : ByteArray) = ⟨(((linesP A).take 2).flatMap fun l => l ++ [10]).toArray⟩ := by
  refine ((str_eq _ _).2 ?_).symm
  rw [cat_data, cat_data, cat_data, cat_data, hd, hr]
  show lineA A.sets ++ [10] ++ (lineI A.init ++ [10] ++ []) = _
  unfold lineA lineI
  rw [joinF_ints]
  simp [joinF]
theorem whole_snoc {A : AU} {k : Nat} (h : k < A.nodes.length) : ((linesP A).take (k + 2 + 1)).flatMap (fun l => l ++ [10]) = ((linesP A).take (k + 2)).flatMap (fun l => l ++ [10]) ++ (lineN A.nodes[k] ++ [10]) := by
  have hl : k + 2 < (linesP A).length := by rw [lines_len]; omega
  rw [List.take_succ_eq_append_getElem hl, List.flatMap_append]
  have e2 : (linesP A)[k + 2]? = some (lineN A.nodes[k]) := by
    unfold linesP
    rw [List.getElem?_cons_succ, List.getElem?_cons_succ, List.getElem?_map, List.getElem?_eq_getElem h]
    rfl
  have e : (linesP A)[k + 2] = lineN A.nodes[k] := Option.some.inj ((List.getElem?_eq_getElem hl).symm.trans e2)
  rw [e]
  simp
theorem node_cat (x : AN) (s fA fB fC rs : ByteArray) (hA : fA = ⟨(fldW [43] (bitsK x.need 64)).toArray⟩) (hB : fB = ⟨(fldW [45] (bitsK x.ban 64)).toArray⟩) (hC : fC = ⟨(fldW [64] (bitsK x.inn 64)).toArray⟩) (hr : rs = ⟨(fldW [] x.to).toArray⟩) : s ++ (⟨#[110, 111, 100, 101]⟩ : ByteArray) ++ fA ++ fB ++ fC ++ (⟨#[32, 116, 111]⟩ : ByteArray) ++ rs ++ (⟨#[10]⟩ : ByteArray) = ⟨(s.data.toList ++ (lineN x ++ [10])).toArray⟩ := by
  refine ((str_eq _ _).2 ?_).symm
  rw [cat_data, cat_data, cat_data, cat_data, cat_data, cat_data, cat_data, hA, hB, hC, hr, lineN_fld]
  simp only [List.append_assoc]
  rfl
set_option maxRecDepth 8000 in
set_option maxHeartbeats 16000000 in
theorem rwhole_any (w : World) (ai an : Option Addr) (ci cn : Nat) (A : AU) (h : AuAt w ai A.init.length an A.nodes.length A) (ok : AuOk A) (few : AuFew A) :
    Calls Tryd.prog 20 #[.agg #[.int .i64 A.sets, .slice ai A.init.length ci, .slice an A.nodes.length cn]] w fun e w' => e = .returned (.string ⟨(wholeP A).toArray⟩) ∧ Below w.heap.size w w' := by
  obtain ⟨res, hres⟩ : ∃ res : ByteArray, res = ⟨(wholeP A).toArray⟩ := ⟨_, rfl⟩
  rw [← hres]
  obtain ⟨dx, hdx⟩ : ∃ dx : ByteArray, dx = ⟨(Lib.itoa A.sets).toArray⟩ := ⟨_, rfl⟩
  obtain ⟨rs, hrs⟩ : ∃ rs : ByteArray, rs = ⟨(fldW [] A.init).toArray⟩ := ⟨_, rfl⟩
  have F1 : Hid (∀ v, Calls Tryd.prog 38 #[.int .i64 A.sets] v fun e w' => e = .returned (.string dx) ∧ Below v.heap.size v w') := fun v => by
    rw [hdx]
    exact rdecimal_any v A.sets ok.sets.1 ok.sets.2
  have F2 : Hid (∀ v, Below w.heap.size w v → Calls Tryd.prog 39 #[.slice ai A.init.length ci] v fun e w' => e = .returned (.string rs) ∧ Below v.heap.size v w') := fun v hb => by
    rw [hrs]
    exact rrow_any v ai ci A.init (h.init.below hb) ok.init few.il
  have zd : dx.size ≤ 21 := by
    have h1 : dx.size = (Lib.itoa A.sets).length := by rw [hdx]; exact List.size_toArray
    have h2 := itoa_le A.sets ok.sets
    omega
  have zr : rs.size ≤ 3200000 := by
    have h1 : rs.size = (fldW [] A.init).length := by rw [hrs]; exact List.size_toArray
    have h2 := fld_le [] A.init ok.init few.il (by decide)
    omega
  have L0 := Lib.hid (whole_two A dx rs hdx hrs)
  have NDS : Hid (∀ v, Below w.heap.size w v → NodesAt v an A.nodes) := fun v hb => h.nodes.below hb
  have NOK : Hid (∀ x ∈ A.nodes, u64ok x.need ∧ u64ok x.ban ∧ u64ok x.inn ∧ ∀ n ∈ x.to, -9223372036854775808 ≤ n ∧ n ≤ 9223372036854775807) := fun x hx => by
    obtain ⟨h0, h1, h2, _, h3⟩ := ok.nodes x hx
    exact ⟨h0, h1, h2, h3⟩
  have LSN : Hid (∀ k (hk : k < A.nodes.length), ((linesP A).take (k + 2 + 1)).flatMap (fun l => l ++ [10]) = ((linesP A).take (k + 2)).flatMap (fun l => l ++ [10]) ++ (lineN A.nodes[k] ++ [10])) := fun k hk => whole_snoc hk
  have LEN : Hid (∀ k, k ≤ A.nodes.length → (((linesP A).take (k + 2)).flatMap (fun l => l ++ [10])).length ≤ 1000000000000) := fun k hk => by
    have h1 := flat_le 16000000 ((linesP A).take (k + 2)) (fun l hl => line_le ok few l (List.mem_of_mem_take hl))
    have h2 : ((linesP A).take (k + 2)).length ≤ 30002 := by rw [List.length_take, lines_len]; have := few.nl; omega
    have h3 : ((linesP A).take (k + 2)).length * (16000000 + 1) ≤ 30002 * 16000001 := Nat.mul_le_mul h2 (Nat.le_refl _)
    omega
  have FINS : Hid (((linesP A).take (A.nodes.length + 2)).flatMap (fun l => l ++ [10]) = wholeP A) := by
    show _ = _
    rw [← lines_len, List.take_length]
    rfl
  have htl := few.tl
  have hnl := few.nl
  obtain ⟨sets, hsets⟩ : ∃ s, s = A.sets := ⟨_, rfl⟩
  obtain ⟨ni, hni⟩ : ∃ n, n = A.init.length := ⟨_, rfl⟩
  obtain ⟨nn, hnn⟩ : ∃ n, n = A.nodes.length := ⟨_, rfl⟩
  rw [← hsets] at F1 ⊢
  rw [← hni] at F2 ⊢
  rw [← hnn] at FINS LEN ⊢
  have hnI : (nn : Int) ≤ 30000 := by omega
  obtain ⟨g, hg⟩ : ∃ g, g = w.heap.size := ⟨_, rfl⟩
  obtain ⟨w1, hw1⟩ : ∃ w1, w1 = w.alloc (.cells #[.int .i64 sets, .slice ai ni ci, .slice an nn cn] AUT) := ⟨_, rfl⟩
  have rb : RowAt w1 g AUT [.int .i64 sets, .slice ai ni ci, .slice an nn cn] := by rw [hw1]; exact RowAt.new #[.int .i64 sets, .slice ai ni ci, .slice an nn cn] hg
  have B1 : Below w.heap.size w w1 := by rw [hw1]; exact balloc (Below.refl _ _) _
  have c0 : w1.cell? ⟨g, 0, none⟩ = some (.int .i64 sets) := rb.cell 0
  have c1 : w1.cell? ⟨g, 1, none⟩ = some (.slice ai ni ci) := rb.cell 1
  have k1 : ¬ 9223372036854775807 < 5 + dx.size := by omega
  have k2 : ¬ 9223372036854775807 < 5 + dx.size + 5 := by omega
  have k3 : ¬ 9223372036854775807 < 5 + dx.size + 5 + rs.size := by omega
  have k4 : ¬ 9223372036854775807 < 5 + dx.size + 5 + rs.size + 1 := by omega
  replace B1 := Lib.hid B1
  replace rb := Lib.hid rb
  replace hg := Lib.hid hg
  replace hw1 := Lib.hid hw1
  replace hnn := Lib.hid hnn
  replace htl := Lib.hid htl
  replace hres := Lib.hid hres
  clear hsets hni hdx hrs h ok few hnl zd zr
  go_enter Tryd.func20, Tryd.ntmps20
  go_upto_region 1 with (fail)
  rw [← hw1.out, ← hg.out]
  refine wp_region_kp (by kernel_rfl) 11 [.fix (.pointer (some ⟨g, 0, none⟩)), .fix (.int .i64 sets), .fix (.string dx), .fix (.string ((⟨#[97, 117, 116, 111, 32]⟩ : ByteArray) ++ dx)), .fix (.string ((⟨#[97, 117, 116, 111, 32]⟩ : ByteArray) ++ dx ++ (⟨#[10, 105, 110, 105, 116]⟩ : ByteArray))), .fix (.pointer (some ⟨g, 1, none⟩)), .fix (.slice ai ni ci), .fix (.string rs), .fix (.string ((⟨#[97, 117, 116, 111, 32]⟩ : ByteArray) ++ dx ++ (⟨#[10, 105, 110, 105, 116]⟩ : ByteArray) ++ rs)), .fix (.string ((⟨#[97, 117, 116, 111, 32]⟩ : ByteArray) ++ dx ++ (⟨#[10, 105, 110, 105, 116]⟩ : ByteArray) ++ rs ++ (⟨#[10]⟩ : ByteArray))), .fix (.string ((⟨#[97, 117, 116, 111, 32]⟩ : ByteArray) ++ dx ++ (⟨#[10, 105, 110, 105, 116]⟩ : ByteArray) ++ rs ++ (⟨#[10]⟩ : ByteArray)))] (by kernel_rfl) (by kernel_rfl) (by kernel_rfl) ?_ ?_
  · intro i hi
    match i, hi with
    | 0, _ =>
      intro o ho ac w' hR hF hD K hK
      simp only [List.getElem?_toArray, List.getElem?_cons_zero, Option.some.injEq] at ho
      subst ho
      have e1 : ac.tmps.getD 1 undef = .pointer (some ⟨g, 0, none⟩) := hF 1 (notDst_spec (by kernel_rfl))
      have d1 := (Array.getD_eq_getD_getElem? (xs := ac.tmps) (i := 1) (d := undef)).symm.trans e1
      clear hD hF
      go_simp
      exact hK _ _ (Below.refl _ _) rfl
    | 1, _ =>
      intro o ho ac w' hR hF hD K hK
      simp only [List.getElem?_toArray, List.getElem?_cons_zero, List.getElem?_cons_succ, Option.some.injEq] at ho
      subst ho
      have e6 : ac.tmps.getD 6 undef = .pointer (some ⟨g, 0, none⟩) := hD 0 (dep_spec (by kernel_rfl)) 6 rfl
      have d6 := (Array.getD_eq_getD_getElem? (xs := ac.tmps) (i := 6) (d := undef)).symm.trans e6
      clear hD hF
      have q0 : w'.cell? ⟨g, 0, none⟩ = some (.int .i64 sets) := bcell hR c0
      go_simp
      exact hK _ _ (Below.refl _ _) rfl
    | 2, _ =>
      intro o ho ac w' hR hF hD K hK
      simp only [List.getElem?_toArray, List.getElem?_cons_zero, List.getElem?_cons_succ, Option.some.injEq] at ho
      subst ho
      have e7 : ac.tmps.getD 7 undef = .int .i64 sets := hD 1 (dep_spec (by kernel_rfl)) 7 rfl
      have d7 := (Array.getD_eq_getD_getElem? (xs := ac.tmps) (i := 7) (d := undef)).symm.trans e7
      clear hD hF
      go_simp
      refine (F1.out w').mono ?_
      rintro e w2 ⟨rfl, hb2⟩
      exact hK _ _ hb2 rfl
    | 3, _ =>
      intro o ho ac w' hR hF hD K hK
      simp only [List.getElem?_toArray, List.getElem?_cons_zero, List.getElem?_cons_succ, Option.some.injEq] at ho
      subst ho
      have e8 : ac.tmps.getD 8 undef = .string dx := hD 2 (dep_spec (by kernel_rfl)) 8 rfl
      have d8 := (Array.getD_eq_getD_getElem? (xs := ac.tmps) (i := 8) (d := undef)).symm.trans e8
      clear hD hF
      go_simp
      exact hK _ _ (Below.refl _ _) rfl
    | 4, _ =>
      intro o ho ac w' hR hF hD K hK
      simp only [List.getElem?_toArray, List.getElem?_cons_zero, List.getElem?_cons_succ, Option.some.injEq] at ho
      subst ho
      have e9 : ac.tmps.getD 9 undef = .string ((⟨#[97, 117, 116, 111, 32]⟩ : ByteArray) ++ dx) := hD 3 (dep_spec (by kernel_rfl)) 9 rfl
      have d9 := (Array.getD_eq_getD_getElem? (xs := ac.tmps) (i := 9) (d := undef)).symm.trans e9
      clear hD hF
      go_simp
      exact hK _ _ (Below.refl _ _) rfl
    | 5, _ =>
      intro o ho ac w' hR hF hD K hK
      simp only [List.getElem?_toArray, List.getElem?_cons_zero, List.getElem?_cons_succ, Option.some.injEq] at ho
      subst ho
      have e1 : ac.tmps.getD 1 undef = .pointer (some ⟨g, 0, none⟩) := hF 1 (notDst_spec (by kernel_rfl))
      have d1 := (Array.getD_eq_getD_getElem? (xs := ac.tmps) (i := 1) (d := undef)).symm.trans e1
      clear hD hF
      go_simp
      exact hK _ _ (Below.refl _ _) rfl
    | 6, _ =>
      intro o ho ac w' hR hF hD K hK
      simp only [List.getElem?_toArray, List.getElem?_cons_zero, List.getElem?_cons_succ, Option.some.injEq] at ho
      subst ho
      have e11 : ac.tmps.getD 11 undef = .pointer (some ⟨g, 1, none⟩) := hD 5 (dep_spec (by kernel_rfl)) 11 rfl
      have d11 := (Array.getD_eq_getD_getElem? (xs := ac.tmps) (i := 11) (d := undef)).symm.trans e11
      clear hD hF
      have q1 : w'.cell? ⟨g, 1, none⟩ = some (.slice ai ni ci) := bcell hR c1
      go_simp
      exact hK _ _ (Below.refl _ _) rfl
    | 7, _ =>
      intro o ho ac w' hR hF hD K hK
      simp only [List.getElem?_toArray, List.getElem?_cons_zero, List.getElem?_cons_succ, Option.some.injEq] at ho
      subst ho
      have e8 : ac.tmps.getD 8 undef = .string dx := hD 2 (dep_spec (by kernel_rfl)) 8 rfl
      have d8 := (Array.getD_eq_getD_getElem? (xs := ac.tmps) (i := 8) (d := undef)).symm.trans e8
      have e12 : ac.tmps.getD 12 undef = .slice ai ni ci := hD 6 (dep_spec (by kernel_rfl)) 12 rfl
      have d12 := (Array.getD_eq_getD_getElem? (xs := ac.tmps) (i := 12) (d := undef)).symm.trans e12
      clear hD hF
      go_simp
      refine (F2.out w' (btrans B1.out hR)).mono ?_
      rintro e w2 ⟨rfl, hb2⟩
      exact hK _ _ hb2 rfl
    | 8, _ =>
      intro o ho ac w' hR hF hD K hK
      simp only [List.getElem?_toArray, List.getElem?_cons_zero, List.getElem?_cons_succ, Option.some.injEq] at ho
      subst ho
      have e10 : ac.tmps.getD 10 undef = .string ((⟨#[97, 117, 116, 111, 32]⟩ : ByteArray) ++ dx ++ (⟨#[10, 105, 110, 105, 116]⟩ : ByteArray)) := hD 4 (dep_spec (by kernel_rfl)) 10 rfl
      have d10 := (Array.getD_eq_getD_getElem? (xs := ac.tmps) (i := 10) (d := undef)).symm.trans e10
      have e13 : ac.tmps.getD 13 undef = .string rs := hD 7 (dep_spec (by kernel_rfl)) 13 rfl
      have d13 := (Array.getD_eq_getD_getElem? (xs := ac.tmps) (i := 13) (d := undef)).symm.trans e13
      clear hD hF
      go_simp
      exact hK _ _ (Below.refl _ _) rfl
    | 9, _ =>
      intro o ho ac w' hR hF hD K hK
      simp only [List.getElem?_toArray, List.getElem?_cons_zero, List.getElem?_cons_succ, Option.some.injEq] at ho
      subst ho
      have e14 : ac.tmps.getD 14 undef = .string ((⟨#[97, 117, 116, 111, 32]⟩ : ByteArray) ++ dx ++ (⟨#[10, 105, 110, 105, 116]⟩ : ByteArray) ++ rs) := hD 8 (dep_spec (by kernel_rfl)) 14 rfl
      have d14 := (Array.getD_eq_getD_getElem? (xs := ac.tmps) (i := 14) (d := undef)).symm.trans e14
      clear hD hF
      go_simp
      exact hK _ _ (Below.refl _ _) rfl
    | 10, _ =>
      intro o ho ac w' hR hF hD K hK
      simp only [List.getElem?_toArray, List.getElem?_cons_zero, List.getElem?_cons_succ, Option.some.injEq] at ho
      subst ho
      have e6 : ac.tmps.getD 6 undef = .pointer (some ⟨g, 0, none⟩) := hD 0 (dep_spec (by kernel_rfl)) 6 rfl
      have d6 := (Array.getD_eq_getD_getElem? (xs := ac.tmps) (i := 6) (d := undef)).symm.trans e6
      have e7 : ac.tmps.getD 7 undef = .int .i64 sets := hD 1 (dep_spec (by kernel_rfl)) 7 rfl
      have d7 := (Array.getD_eq_getD_getElem? (xs := ac.tmps) (i := 7) (d := undef)).symm.trans e7
      have e8 : ac.tmps.getD 8 undef = .string dx := hD 2 (dep_spec (by kernel_rfl)) 8 rfl
      have d8 := (Array.getD_eq_getD_getElem? (xs := ac.tmps) (i := 8) (d := undef)).symm.trans e8
      have e9 : ac.tmps.getD 9 undef = .string ((⟨#[97, 117, 116, 111, 32]⟩ : ByteArray) ++ dx) := hD 3 (dep_spec (by kernel_rfl)) 9 rfl
      have d9 := (Array.getD_eq_getD_getElem? (xs := ac.tmps) (i := 9) (d := undef)).symm.trans e9
      have e10 : ac.tmps.getD 10 undef = .string ((⟨#[97, 117, 116, 111, 32]⟩ : ByteArray) ++ dx ++ (⟨#[10, 105, 110, 105, 116]⟩ : ByteArray)) := hD 4 (dep_spec (by kernel_rfl)) 10 rfl
      have d10 := (Array.getD_eq_getD_getElem? (xs := ac.tmps) (i := 10) (d := undef)).symm.trans e10
      have e11 : ac.tmps.getD 11 undef = .pointer (some ⟨g, 1, none⟩) := hD 5 (dep_spec (by kernel_rfl)) 11 rfl
      have d11 := (Array.getD_eq_getD_getElem? (xs := ac.tmps) (i := 11) (d := undef)).symm.trans e11
      have e12 : ac.tmps.getD 12 undef = .slice ai ni ci := hD 6 (dep_spec (by kernel_rfl)) 12 rfl
      have d12 := (Array.getD_eq_getD_getElem? (xs := ac.tmps) (i := 12) (d := undef)).symm.trans e12
      have e13 : ac.tmps.getD 13 undef = .string rs := hD 7 (dep_spec (by kernel_rfl)) 13 rfl
      have d13 := (Array.getD_eq_getD_getElem? (xs := ac.tmps) (i := 13) (d := undef)).symm.trans e13
      have e14 : ac.tmps.getD 14 undef = .string ((⟨#[97, 117, 116, 111, 32]⟩ : ByteArray) ++ dx ++ (⟨#[10, 105, 110, 105, 116]⟩ : ByteArray) ++ rs) := hD 8 (dep_spec (by kernel_rfl)) 14 rfl
      have d14 := (Array.getD_eq_getD_getElem? (xs := ac.tmps) (i := 14) (d := undef)).symm.trans e14
      have e15 : ac.tmps.getD 15 undef = .string ((⟨#[97, 117, 116, 111, 32]⟩ : ByteArray) ++ dx ++ (⟨#[10, 105, 110, 105, 116]⟩ : ByteArray) ++ rs ++ (⟨#[10]⟩ : ByteArray)) := hD 9 (dep_spec (by kernel_rfl)) 15 rfl
      have d15 := (Array.getD_eq_getD_getElem? (xs := ac.tmps) (i := 15) (d := undef)).symm.trans e15
      clear hD hF
      go_simp
      exact hK _ _ (Below.refl _ _) rfl
    | k + 11, hk => omega
  · rintro ⟨tm, df⟩ w5 hdf hsz hF hR9 hV
    obtain rfl : df = [] := hdf
    obtain ⟨q, rfl⟩ := frame49 tm hsz
    have k3 : q 3 = .string ((⟨#[97, 117, 116, 111, 32]⟩ : ByteArray) ++ dx ++ (⟨#[10, 105, 110, 105, 116]⟩ : ByteArray) ++ rs ++ (⟨#[10]⟩ : ByteArray)) := hV 10 3 (by decide) rfl
    simp only [k3]
    clear k3
    have k0 := hF 0 (notDst_spec (by kernel_rfl))
    have k1 := hF 1 (notDst_spec (by kernel_rfl))
    have k2 := hF 2 (notDst_spec (by kernel_rfl))
    have k4 := hF 4 (notDst_spec (by kernel_rfl))
    have k5 := hF 5 (notDst_spec (by kernel_rfl))
    have k16 := hF 16 (notDst_spec (by kernel_rfl))
    have k17 := hF 17 (notDst_spec (by kernel_rfl))
    have k18 := hF 18 (notDst_spec (by kernel_rfl))
    have k19 := hF 19 (notDst_spec (by kernel_rfl))
    have k20 := hF 20 (notDst_spec (by kernel_rfl))
    have k21 := hF 21 (notDst_spec (by kernel_rfl))
    have k22 := hF 22 (notDst_spec (by kernel_rfl))
    have k23 := hF 23 (notDst_spec (by kernel_rfl))
    have k24 := hF 24 (notDst_spec (by kernel_rfl))
    have k25 := hF 25 (notDst_spec (by kernel_rfl))
    have k26 := hF 26 (notDst_spec (by kernel_rfl))
    have k27 := hF 27 (notDst_spec (by kernel_rfl))
    have k28 := hF 28 (notDst_spec (by kernel_rfl))
    have k29 := hF 29 (notDst_spec (by kernel_rfl))
    have k30 := hF 30 (notDst_spec (by kernel_rfl))
    have k31 := hF 31 (notDst_spec (by kernel_rfl))
    have k32 := hF 32 (notDst_spec (by kernel_rfl))
    have k33 := hF 33 (notDst_spec (by kernel_rfl))
    have k34 := hF 34 (notDst_spec (by kernel_rfl))
    have k35 := hF 35 (notDst_spec (by kernel_rfl))
    have k36 := hF 36 (notDst_spec (by kernel_rfl))
    have k37 := hF 37 (notDst_spec (by kernel_rfl))
    have k38 := hF 38 (notDst_spec (by kernel_rfl))
    have k39 := hF 39 (notDst_spec (by kernel_rfl))
    have k40 := hF 40 (notDst_spec (by kernel_rfl))
    have k41 := hF 41 (notDst_spec (by kernel_rfl))
    have k42 := hF 42 (notDst_spec (by kernel_rfl))
    have k43 := hF 43 (notDst_spec (by kernel_rfl))
    have k44 := hF 44 (notDst_spec (by kernel_rfl))
    have k45 := hF 45 (notDst_spec (by kernel_rfl))
    have k46 := hF 46 (notDst_spec (by kernel_rfl))
    have k47 := hF 47 (notDst_spec (by kernel_rfl))
    have k48 := hF 48 (notDst_spec (by kernel_rfl))
    simp only [Array.getD_eq_getD_getElem?, List.getElem?_toArray, List.getElem?_cons_succ, List.getElem?_cons_zero, Option.getD_some] at k0 k1 k2 k4 k5 k16 k17 k18 k19 k20 k21 k22 k23 k24 k25 k26 k27 k28 k29 k30 k31 k32 k33 k34 k35 k36 k37 k38 k39 k40 k41 k42 k43 k44 k45 k46 k47 k48
    simp only [k0, k1, k2, k4, k5, k16, k17, k18, k19, k20, k21, k22, k23, k24, k25, k26, k27, k28, k29, k30, k31, k32, k33, k34, k35, k36, k37, k38, k39, k40, k41, k42, k43, k44, k45, k46, k47, k48]
    clear k0 k1 k2 k4 k5 k16 k17 k18 k19 k20 k21 k22 k23 k24 k25 k26 k27 k28 k29 k30 k31 k32 k33 k34 k35 k36 k37 k38 k39 k40 k41 k42 k43 k44 k45 k46 k47 k48
    clear hF hV hsz
    change wpAny _ _ _ _ 0 _ _ _
    refine ⟨by kernel_rfl, ?_⟩
    have rb2 := Lib.hid (rb.out.below hR9)
    have O2 : Hid ((⟨#[97, 117, 116, 111, 32]⟩ : ByteArray) ++ dx ++ (⟨#[10, 105, 110, 105, 116]⟩ : ByteArray) ++ rs ++ (⟨#[10]⟩ : ByteArray) = ⟨(((linesP A).take (0 + 2)).flatMap fun l => l ++ [10]).toArray⟩) := L0
    have Z5 : Hid (Below w.heap.size w w5) := btrans B1.out hR9
    clear hR9 F1 F2 L0 c0 c1 k1 k2 k3 k4 rb
    go_wp2
    go_loopw [3, 4] (fun sv iv wr => ∃ (k : Nat) (s : ByteArray), sv = .string s ∧ iv = .int .i64 (k : Int) ∧ k ≤ nn ∧ Hid (s = ⟨(((linesP A).take (k + 2)).flatMap fun l => l ++ [10]).toArray⟩) ∧ Hid (RowAt wr g AUT [.int .i64 sets, .slice ai ni ci, .slice an nn cn]) ∧ Hid (Below w.heap.size w wr)) (fun _ iv _ => nn - (intOf iv).toNat)
    case atStart => exact ⟨0, _, rfl, rfl, Nat.zero_le _, O2, rb2, Z5⟩
    case round =>
      obtain ⟨k, s, rfl, rfl, hk, J, rbr, Z⟩ := hrel
      clear O2 Z5 rb2
      have d2 : wr.cell? ⟨g, 2, none⟩ = some (.slice an nn cn) := rbr.out.cell 2
      by_cases hlt : k < nn
      · have hlI : (k : Int) < (nn : Int) := by omega
        have hkA : k < A.nodes.length := by have := hnn.out; omega
        obtain ⟨b, off, ea, hnode⟩ := (NDS.out wr Z.out).at k hkA
        have hsn := LSN.out k hkA
        obtain ⟨nk1, nk2, nk3, nk4⟩ := NOK.out _ (List.getElem_mem hkA)
        have nk5 := htl.out _ (List.getElem_mem hkA)
        obtain ⟨x, hx⟩ : ∃ x, x = A.nodes[k] := ⟨_, rfl⟩
        rw [← hx] at hnode hsn nk1 nk2 nk3 nk4 nk5
        obtain ⟨ta, tc, rng, nto⟩ := hnode.range
        obtain ⟨fA, hA⟩ : ∃ s : ByteArray, s = ⟨(fldW [43] (bitsK x.need 64)).toArray⟩ := ⟨_, rfl⟩
        obtain ⟨fB, hB⟩ : ∃ s : ByteArray, s = ⟨(fldW [45] (bitsK x.ban 64)).toArray⟩ := ⟨_, rfl⟩
        obtain ⟨fC, hC⟩ : ∃ s : ByteArray, s = ⟨(fldW [64] (bitsK x.inn 64)).toArray⟩ := ⟨_, rfl⟩
        obtain ⟨fD, hD⟩ : ∃ s : ByteArray, s = ⟨(fldW [] x.to).toArray⟩ := ⟨_, rfl⟩
        have hbk : ∀ u, (bitsK u 64).length ≤ 100000 := fun u => Nat.le_trans (bitsK_le u 64) (by decide)
        have zA : fA.size ≤ 3200000 := by rw [sz_of hA]; exact fld_le _ _ (bitsK_rng _) (hbk _) (by decide)
        have zB : fB.size ≤ 3200000 := by rw [sz_of hB]; exact fld_le _ _ (bitsK_rng _) (hbk _) (by decide)
        have zC : fC.size ≤ 3200000 := by rw [sz_of hC]; exact fld_le _ _ (bitsK_rng _) (hbk _) (by decide)
        have zD : fD.size ≤ 3200000 := by rw [sz_of hD]; exact fld_le _ _ nk4 nk5 (by decide)
        have zs : s.size ≤ 1000000000000 := by rw [sz_of J.out]; exact LEN.out k hk
        have J2 : Hid (s ++ (⟨#[110, 111, 100, 101]⟩ : ByteArray) ++ fA ++ fB ++ fC ++ (⟨#[32, 116, 111]⟩ : ByteArray) ++ fD ++ (⟨#[10]⟩ : ByteArray) = ⟨(((linesP A).take (k + 1 + 2)).flatMap fun l => l ++ [10]).toArray⟩) := by
          show _ = _
          have h1 := node_cat x s fA fB fC fD hA hB hC hD
          rw [show k + 1 + 2 = k + 2 + 1 from rfl, hsn, h1, J.out]
        have FA : Hid (∀ v, Calls Tryd.prog 40 #[.int .u64 (x.need : Int), .string ⟨#[43]⟩] v fun e w' => e = .returned (.string fA) ∧ Below v.heap.size v w') := fun v => by rw [hA]; exact rfields_any v _ nk1 ⟨#[43]⟩ (by decide)
        have FB : Hid (∀ v, Calls Tryd.prog 40 #[.int .u64 (x.ban : Int), .string ⟨#[45]⟩] v fun e w' => e = .returned (.string fB) ∧ Below v.heap.size v w') := fun v => by rw [hB]; exact rfields_any v _ nk2 ⟨#[45]⟩ (by decide)
        have FC : Hid (∀ v, Calls Tryd.prog 40 #[.int .u64 (x.inn : Int), .string ⟨#[64]⟩] v fun e w' => e = .returned (.string fC) ∧ Below v.heap.size v w') := fun v => by rw [hC]; exact rfields_any v _ nk3 ⟨#[64]⟩ (by decide)
        have FD : Hid (∀ v, Below wr.heap.size wr v → Calls Tryd.prog 39 #[.slice ta x.to.length tc] v fun e w' => e = .returned (.string fD) ∧ Below v.heap.size v w') := fun v hb => by rw [hD]; exact rrow_any v ta tc x.to (nto.below hb) nk4 nk5
        have k1 : ¬ 9223372036854775807 < s.size + 4 := by omega
        have k2 : ¬ 9223372036854775807 < s.size + 4 + fA.size := by omega
        have k3 : ¬ 9223372036854775807 < s.size + 4 + fA.size + fB.size := by omega
        have k4 : ¬ 9223372036854775807 < s.size + 4 + fA.size + fB.size + fC.size := by omega
        have k5 : ¬ 9223372036854775807 < s.size + 4 + fA.size + fB.size + fC.size + 3 := by omega
        have k6 : ¬ 9223372036854775807 < s.size + 4 + fA.size + fB.size + fC.size + 3 + fD.size := by omega
        have k7 : ¬ 9223372036854775807 < s.size + 4 + fA.size + fB.size + fC.size + 3 + fD.size + 1 := by omega
        replace rng := Lib.hid rng
        have ROW : Hid ((anV x ta tc).length = 4) := rfl
        have C3 : Hid ((anV x ta tc)[0]? = some (.int .u64 (x.need : Int)) ∧ (anV x ta tc)[1]? = some (.int .u64 (x.ban : Int)) ∧ (anV x ta tc)[2]? = some (.int .u64 (x.inn : Int)) ∧ (anV x ta tc)[3]? = some (.slice ta x.to.length tc)) := ⟨rfl, rfl, rfl, rfl⟩
        have ONE : Hid (∀ v ∈ anV x ta tc, v.oneCell' = true) := anV_one x ta tc
        subst ea
        generalize anV x ta tc = row at rng ROW C3 ONE
        obtain ⟨tl, htl'⟩ : ∃ tl, tl = x.to.length := ⟨_, rfl⟩
        rw [← htl'] at C3 FD
        obtain ⟨xn, hxn⟩ : ∃ q, q = x.need := ⟨_, rfl⟩
        obtain ⟨xb, hxb⟩ : ∃ q, q = x.ban := ⟨_, rfl⟩
        obtain ⟨xi, hxi⟩ : ∃ q, q = x.inn := ⟨_, rfl⟩
        rw [← hxn] at C3 FA
        rw [← hxb] at C3 FB
        rw [← hxi] at C3 FC
        clear hx hnode nk1 nk2 nk3 nk4 nk5 hA hB hC hD hbk zA zB zC zD zs nto htl' hxn hxb hxi LSN NOK NDS FINS LEN hkA hsn J
        go_upto_region 5 with (fail)
        refine wp_region_list ?_
        refine wpList_plain rfl (fun K hK => ?_)
        go_simp
        refine hK _ _ ?_
        clear hK K
        refine wpList_plain rfl (fun K hK => ?_)
        go_simp
        refine hK _ _ ?_
        clear hK K
        refine wpList_plain rfl (fun K hK => ?_)
        go_simp
        refine hK _ _ ?_
        clear hK K
        refine wpList_plain rfl (fun K hK => ?_)
        go_simp
        refine hK _ _ ?_
        clear hK K
        refine wpList_load_mid rfl TAn (.tmp 26) rfl b (off + k * 4) rfl row _ rng.out undAn.choose_spec.1 undAn.choose_spec.2 (by rw [ROW.out]; kernel_rfl) ?_
        refine wpList_plain rfl (fun K hK => ?_)
        go_simp
        refine hK _ _ ?_
        clear hK K
        obtain ⟨w4, hw4⟩ : ∃ w4, w4 = wr.alloc (.cells #[.int .u64 0, .int .u64 0, .int .u64 0, .slice none 0 0] TAn) := ⟨_, rfl⟩
        obtain ⟨gx, hgx⟩ : ∃ gx, gx = wr.heap.size := ⟨_, rfl⟩
        have r4 : RowAt w4 gx TAn [.int .u64 0, .int .u64 0, .int .u64 0, .slice none 0 0] := by rw [hw4]; exact RowAt.new #[.int .u64 0, .int .u64 0, .int .u64 0, .slice none 0 0] hgx
        have b34 : Below wr.heap.size wr w4 := by rw [hw4]; exact balloc (Below.refl _ _) _
        rw [← hw4, ← hgx]
        replace hw4 := Lib.hid hw4
        replace hgx := Lib.hid hgx
        refine list_store (l := row) infoAn r4 rfl ROW.out ONE.out rfl 5 27 rfl rfl rfl ?_
        intro w5 q5 k5'
        refine wpList_nil ?_
        have b35 : Below wr.heap.size wr w5 := k5'.below b34 (fun j hj => by rw [hj]; exact Nat.le_of_eq hgx.out.symm)
        have rb5 := Lib.hid (rbr.out.below b35)
        have Z5 := Lib.hid (btrans Z.out b35)
        have c0 : w5.cell? ⟨gx, 0, none⟩ = some (.int .u64 (xn : Int)) := (q5.cell 0).trans C3.out.1
        have c1 : w5.cell? ⟨gx, 1, none⟩ = some (.int .u64 (xb : Int)) := (q5.cell 1).trans C3.out.2.1
        have c2 : w5.cell? ⟨gx, 2, none⟩ = some (.int .u64 (xi : Int)) := (q5.cell 2).trans C3.out.2.2.1
        have c3 : w5.cell? ⟨gx, 3, none⟩ = some (.slice ta tl tc) := (q5.cell 3).trans C3.out.2.2.2
        replace b35 := Lib.hid b35
        clear k5' r4 b34 q5 Z C3 ONE ROW rng hw4 d2 rbr
        go_upto_region 6 with (fail)
        refine wp_region_kp (by kernel_rfl) 20 [.fix (.string s), .fix (.string (s ++ (⟨#[110, 111, 100, 101]⟩ : ByteArray))), .fix (.pointer (some ⟨gx, 0, none⟩)), .fix (.int .u64 (xn : Int)), .fix (.string fA), .fix (.string (s ++ (⟨#[110, 111, 100, 101]⟩ : ByteArray) ++ fA)), .fix (.pointer (some ⟨gx, 1, none⟩)), .fix (.int .u64 (xb : Int)), .fix (.string fB), .fix (.string (s ++ (⟨#[110, 111, 100, 101]⟩ : ByteArray) ++ fA ++ fB)), .fix (.pointer (some ⟨gx, 2, none⟩)), .fix (.int .u64 (xi : Int)), .fix (.string fC), .fix (.string (s ++ (⟨#[110, 111, 100, 101]⟩ : ByteArray) ++ fA ++ fB ++ fC)), .fix (.string (s ++ (⟨#[110, 111, 100, 101]⟩ : ByteArray) ++ fA ++ fB ++ fC ++ (⟨#[32, 116, 111]⟩ : ByteArray))), .fix (.pointer (some ⟨gx, 3, none⟩)), .fix (.slice ta tl tc), .fix (.string fD), .fix (.string (s ++ (⟨#[110, 111, 100, 101]⟩ : ByteArray) ++ fA ++ fB ++ fC ++ (⟨#[32, 116, 111]⟩ : ByteArray) ++ fD)), .fix (.string (s ++ (⟨#[110, 111, 100, 101]⟩ : ByteArray) ++ fA ++ fB ++ fC ++ (⟨#[32, 116, 111]⟩ : ByteArray) ++ fD ++ (⟨#[10]⟩ : ByteArray)))] (by kernel_rfl) (by kernel_rfl) (by kernel_rfl) ?_ ?_
        · intro i hi
          match i, hi with
          | 0, _ =>
            intro o ho ac w' hR hF hD K hK
            simp only [List.getElem?_toArray, List.getElem?_cons_zero, Option.some.injEq] at ho
            subst ho
            have e3 : ac.tmps.getD 3 undef = .string s := hF 3 (notDst_spec (by kernel_rfl))
            have d3 := (Array.getD_eq_getD_getElem? (xs := ac.tmps) (i := 3) (d := undef)).symm.trans e3
            clear hD hF
            go_simp
            exact hK _ _ (Below.refl _ _) rfl
          | 1, _ =>
            intro o ho ac w' hR hF hD K hK
            simp only [List.getElem?_toArray, List.getElem?_cons_zero, List.getElem?_cons_succ, Option.some.injEq] at ho
            subst ho
            have e28 : ac.tmps.getD 28 undef = .string s := hD 0 (dep_spec (by kernel_rfl)) 28 rfl
            have d28 := (Array.getD_eq_getD_getElem? (xs := ac.tmps) (i := 28) (d := undef)).symm.trans e28
            clear hD hF
            go_simp
            exact hK _ _ (Below.refl _ _) rfl
          | 2, _ =>
            intro o ho ac w' hR hF hD K hK
            simp only [List.getElem?_toArray, List.getElem?_cons_zero, List.getElem?_cons_succ, Option.some.injEq] at ho
            subst ho
            have e5 : ac.tmps.getD 5 undef = .pointer (some ⟨gx, 0, none⟩) := hF 5 (notDst_spec (by kernel_rfl))
            have d5 := (Array.getD_eq_getD_getElem? (xs := ac.tmps) (i := 5) (d := undef)).symm.trans e5
            clear hD hF
            go_simp
            exact hK _ _ (Below.refl _ _) rfl
          | 3, _ =>
            intro o ho ac w' hR hF hD K hK
            simp only [List.getElem?_toArray, List.getElem?_cons_zero, List.getElem?_cons_succ, Option.some.injEq] at ho
            subst ho
            have e30 : ac.tmps.getD 30 undef = .pointer (some ⟨gx, 0, none⟩) := hD 2 (dep_spec (by kernel_rfl)) 30 rfl
            have d30 := (Array.getD_eq_getD_getElem? (xs := ac.tmps) (i := 30) (d := undef)).symm.trans e30
            clear hD hF
            have q0 : w'.cell? ⟨gx, 0, none⟩ = some (.int .u64 (xn : Int)) := bcell hR c0
            go_simp
            exact hK _ _ (Below.refl _ _) rfl
          | 4, _ =>
            intro o ho ac w' hR hF hD K hK
            simp only [List.getElem?_toArray, List.getElem?_cons_zero, List.getElem?_cons_succ, Option.some.injEq] at ho
            subst ho
            have e31 : ac.tmps.getD 31 undef = .int .u64 (xn : Int) := hD 3 (dep_spec (by kernel_rfl)) 31 rfl
            have d31 := (Array.getD_eq_getD_getElem? (xs := ac.tmps) (i := 31) (d := undef)).symm.trans e31
            clear hD hF
            go_simp
            refine (FA.out w').mono ?_
            rintro e w2 ⟨rfl, hb2⟩
            exact hK _ _ hb2 rfl
          | 5, _ =>
            intro o ho ac w' hR hF hD K hK
            simp only [List.getElem?_toArray, List.getElem?_cons_zero, List.getElem?_cons_succ, Option.some.injEq] at ho
            subst ho
            have e29 : ac.tmps.getD 29 undef = .string (s ++ (⟨#[110, 111, 100, 101]⟩ : ByteArray)) := hD 1 (dep_spec (by kernel_rfl)) 29 rfl
            have d29 := (Array.getD_eq_getD_getElem? (xs := ac.tmps) (i := 29) (d := undef)).symm.trans e29
            have e32 : ac.tmps.getD 32 undef = .string fA := hD 4 (dep_spec (by kernel_rfl)) 32 rfl
            have d32 := (Array.getD_eq_getD_getElem? (xs := ac.tmps) (i := 32) (d := undef)).symm.trans e32
            clear hD hF
            go_simp
            exact hK _ _ (Below.refl _ _) rfl
          | 6, _ =>
            intro o ho ac w' hR hF hD K hK
            simp only [List.getElem?_toArray, List.getElem?_cons_zero, List.getElem?_cons_succ, Option.some.injEq] at ho
            subst ho
            have e5 : ac.tmps.getD 5 undef = .pointer (some ⟨gx, 0, none⟩) := hF 5 (notDst_spec (by kernel_rfl))
            have d5 := (Array.getD_eq_getD_getElem? (xs := ac.tmps) (i := 5) (d := undef)).symm.trans e5
            clear hD hF
            go_simp
            exact hK _ _ (Below.refl _ _) rfl
          | 7, _ =>
            intro o ho ac w' hR hF hD K hK
            simp only [List.getElem?_toArray, List.getElem?_cons_zero, List.getElem?_cons_succ, Option.some.injEq] at ho
            subst ho
            have e34 : ac.tmps.getD 34 undef = .pointer (some ⟨gx, 1, none⟩) := hD 6 (dep_spec (by kernel_rfl)) 34 rfl
            have d34 := (Array.getD_eq_getD_getElem? (xs := ac.tmps) (i := 34) (d := undef)).symm.trans e34
            clear hD hF
            have q1 : w'.cell? ⟨gx, 1, none⟩ = some (.int .u64 (xb : Int)) := bcell hR c1
            go_simp
            exact hK _ _ (Below.refl _ _) rfl
          | 8, _ =>
            intro o ho ac w' hR hF hD K hK
            simp only [List.getElem?_toArray, List.getElem?_cons_zero, List.getElem?_cons_succ, Option.some.injEq] at ho
            subst ho
            have e32 : ac.tmps.getD 32 undef = .string fA := hD 4 (dep_spec (by kernel_rfl)) 32 rfl
            have d32 := (Array.getD_eq_getD_getElem? (xs := ac.tmps) (i := 32) (d := undef)).symm.trans e32
            have e35 : ac.tmps.getD 35 undef = .int .u64 (xb : Int) := hD 7 (dep_spec (by kernel_rfl)) 35 rfl
            have d35 := (Array.getD_eq_getD_getElem? (xs := ac.tmps) (i := 35) (d := undef)).symm.trans e35
            clear hD hF
            go_simp
            refine (FB.out w').mono ?_
            rintro e w2 ⟨rfl, hb2⟩
            exact hK _ _ hb2 rfl
          | 9, _ =>
            intro o ho ac w' hR hF hD K hK
            simp only [List.getElem?_toArray, List.getElem?_cons_zero, List.getElem?_cons_succ, Option.some.injEq] at ho
            subst ho
            have e33 : ac.tmps.getD 33 undef = .string (s ++ (⟨#[110, 111, 100, 101]⟩ : ByteArray) ++ fA) := hD 5 (dep_spec (by kernel_rfl)) 33 rfl
            have d33 := (Array.getD_eq_getD_getElem? (xs := ac.tmps) (i := 33) (d := undef)).symm.trans e33
            have e36 : ac.tmps.getD 36 undef = .string fB := hD 8 (dep_spec (by kernel_rfl)) 36 rfl
            have d36 := (Array.getD_eq_getD_getElem? (xs := ac.tmps) (i := 36) (d := undef)).symm.trans e36
            clear hD hF
            go_simp
            exact hK _ _ (Below.refl _ _) rfl
          | 10, _ =>
            intro o ho ac w' hR hF hD K hK
            simp only [List.getElem?_toArray, List.getElem?_cons_zero, List.getElem?_cons_succ, Option.some.injEq] at ho
            subst ho
            have e5 : ac.tmps.getD 5 undef = .pointer (some ⟨gx, 0, none⟩) := hF 5 (notDst_spec (by kernel_rfl))
            have d5 := (Array.getD_eq_getD_getElem? (xs := ac.tmps) (i := 5) (d := undef)).symm.trans e5
            clear hD hF
            go_simp
            exact hK _ _ (Below.refl _ _) rfl
          | 11, _ =>
            intro o ho ac w' hR hF hD K hK
            simp only [List.getElem?_toArray, List.getElem?_cons_zero, List.getElem?_cons_succ, Option.some.injEq] at ho
            subst ho
            have e38 : ac.tmps.getD 38 undef = .pointer (some ⟨gx, 2, none⟩) := hD 10 (dep_spec (by kernel_rfl)) 38 rfl
            have d38 := (Array.getD_eq_getD_getElem? (xs := ac.tmps) (i := 38) (d := undef)).symm.trans e38
            clear hD hF
            have q2 : w'.cell? ⟨gx, 2, none⟩ = some (.int .u64 (xi : Int)) := bcell hR c2
            go_simp
            exact hK _ _ (Below.refl _ _) rfl
          | 12, _ =>
            intro o ho ac w' hR hF hD K hK
            simp only [List.getElem?_toArray, List.getElem?_cons_zero, List.getElem?_cons_succ, Option.some.injEq] at ho
            subst ho
            have e36 : ac.tmps.getD 36 undef = .string fB := hD 8 (dep_spec (by kernel_rfl)) 36 rfl
            have d36 := (Array.getD_eq_getD_getElem? (xs := ac.tmps) (i := 36) (d := undef)).symm.trans e36
            have e39 : ac.tmps.getD 39 undef = .int .u64 (xi : Int) := hD 11 (dep_spec (by kernel_rfl)) 39 rfl
            have d39 := (Array.getD_eq_getD_getElem? (xs := ac.tmps) (i := 39) (d := undef)).symm.trans e39
            clear hD hF
            go_simp
            refine (FC.out w').mono ?_
            rintro e w2 ⟨rfl, hb2⟩
            exact hK _ _ hb2 rfl
          | 13, _ =>
            intro o ho ac w' hR hF hD K hK
            simp only [List.getElem?_toArray, List.getElem?_cons_zero, List.getElem?_cons_succ, Option.some.injEq] at ho
            subst ho
            have e37 : ac.tmps.getD 37 undef = .string (s ++ (⟨#[110, 111, 100, 101]⟩ : ByteArray) ++ fA ++ fB) := hD 9 (dep_spec (by kernel_rfl)) 37 rfl
            have d37 := (Array.getD_eq_getD_getElem? (xs := ac.tmps) (i := 37) (d := undef)).symm.trans e37
            have e40 : ac.tmps.getD 40 undef = .string fC := hD 12 (dep_spec (by kernel_rfl)) 40 rfl
            have d40 := (Array.getD_eq_getD_getElem? (xs := ac.tmps) (i := 40) (d := undef)).symm.trans e40
            clear hD hF
            go_simp
            exact hK _ _ (Below.refl _ _) rfl
          | 14, _ =>
            intro o ho ac w' hR hF hD K hK
            simp only [List.getElem?_toArray, List.getElem?_cons_zero, List.getElem?_cons_succ, Option.some.injEq] at ho
            subst ho
            have e41 : ac.tmps.getD 41 undef = .string (s ++ (⟨#[110, 111, 100, 101]⟩ : ByteArray) ++ fA ++ fB ++ fC) := hD 13 (dep_spec (by kernel_rfl)) 41 rfl
            have d41 := (Array.getD_eq_getD_getElem? (xs := ac.tmps) (i := 41) (d := undef)).symm.trans e41
            clear hD hF
            go_simp
            exact hK _ _ (Below.refl _ _) rfl
          | 15, _ =>
            intro o ho ac w' hR hF hD K hK
            simp only [List.getElem?_toArray, List.getElem?_cons_zero, List.getElem?_cons_succ, Option.some.injEq] at ho
            subst ho
            have e5 : ac.tmps.getD 5 undef = .pointer (some ⟨gx, 0, none⟩) := hF 5 (notDst_spec (by kernel_rfl))
            have d5 := (Array.getD_eq_getD_getElem? (xs := ac.tmps) (i := 5) (d := undef)).symm.trans e5
            clear hD hF
            go_simp
            exact hK _ _ (Below.refl _ _) rfl
          | 16, _ =>
            intro o ho ac w' hR hF hD K hK
            simp only [List.getElem?_toArray, List.getElem?_cons_zero, List.getElem?_cons_succ, Option.some.injEq] at ho
            subst ho
            have e43 : ac.tmps.getD 43 undef = .pointer (some ⟨gx, 3, none⟩) := hD 15 (dep_spec (by kernel_rfl)) 43 rfl
            have d43 := (Array.getD_eq_getD_getElem? (xs := ac.tmps) (i := 43) (d := undef)).symm.trans e43
            clear hD hF
            have q3 : w'.cell? ⟨gx, 3, none⟩ = some (.slice ta tl tc) := bcell hR c3
            go_simp
            exact hK _ _ (Below.refl _ _) rfl
          | 17, _ =>
            intro o ho ac w' hR hF hD K hK
            simp only [List.getElem?_toArray, List.getElem?_cons_zero, List.getElem?_cons_succ, Option.some.injEq] at ho
            subst ho
            have e40 : ac.tmps.getD 40 undef = .string fC := hD 12 (dep_spec (by kernel_rfl)) 40 rfl
            have d40 := (Array.getD_eq_getD_getElem? (xs := ac.tmps) (i := 40) (d := undef)).symm.trans e40
            have e44 : ac.tmps.getD 44 undef = .slice ta tl tc := hD 16 (dep_spec (by kernel_rfl)) 44 rfl
            have d44 := (Array.getD_eq_getD_getElem? (xs := ac.tmps) (i := 44) (d := undef)).symm.trans e44
            clear hD hF
            go_simp
            refine (FD.out w' (btrans b35.out hR)).mono ?_
            rintro e w2 ⟨rfl, hb2⟩
            exact hK _ _ hb2 rfl
          | 18, _ =>
            intro o ho ac w' hR hF hD K hK
            simp only [List.getElem?_toArray, List.getElem?_cons_zero, List.getElem?_cons_succ, Option.some.injEq] at ho
            subst ho
            have e42 : ac.tmps.getD 42 undef = .string (s ++ (⟨#[110, 111, 100, 101]⟩ : ByteArray) ++ fA ++ fB ++ fC ++ (⟨#[32, 116, 111]⟩ : ByteArray)) := hD 14 (dep_spec (by kernel_rfl)) 42 rfl
            have d42 := (Array.getD_eq_getD_getElem? (xs := ac.tmps) (i := 42) (d := undef)).symm.trans e42
            have e45 : ac.tmps.getD 45 undef = .string fD := hD 17 (dep_spec (by kernel_rfl)) 45 rfl
            have d45 := (Array.getD_eq_getD_getElem? (xs := ac.tmps) (i := 45) (d := undef)).symm.trans e45
            clear hD hF
            go_simp
            exact hK _ _ (Below.refl _ _) rfl
          | 19, _ =>
            intro o ho ac w' hR hF hD K hK
            simp only [List.getElem?_toArray, List.getElem?_cons_zero, List.getElem?_cons_succ, Option.some.injEq] at ho
            subst ho
            have e46 : ac.tmps.getD 46 undef = .string (s ++ (⟨#[110, 111, 100, 101]⟩ : ByteArray) ++ fA ++ fB ++ fC ++ (⟨#[32, 116, 111]⟩ : ByteArray) ++ fD) := hD 18 (dep_spec (by kernel_rfl)) 46 rfl
            have d46 := (Array.getD_eq_getD_getElem? (xs := ac.tmps) (i := 46) (d := undef)).symm.trans e46
            clear hD hF
            go_simp
            exact hK _ _ (Below.refl _ _) rfl
          | k + 20, hk => omega
        · rintro ⟨tm, df⟩ w6 hdf hsz hF hR9 hV
          obtain rfl : df = [] := hdf
          obtain ⟨q, rfl⟩ := frame49 tm hsz
          have k47 : q 47 = .string (s ++ (⟨#[110, 111, 100, 101]⟩ : ByteArray) ++ fA ++ fB ++ fC ++ (⟨#[32, 116, 111]⟩ : ByteArray) ++ fD ++ (⟨#[10]⟩ : ByteArray)) := hV 19 47 (by decide) rfl
          simp only [k47]
          clear k47
          have k0 := hF 0 (notDst_spec (by kernel_rfl))
          have k1 := hF 1 (notDst_spec (by kernel_rfl))
          have k2 := hF 2 (notDst_spec (by kernel_rfl))
          have k3 := hF 3 (notDst_spec (by kernel_rfl))
          have k4 := hF 4 (notDst_spec (by kernel_rfl))
          have k5 := hF 5 (notDst_spec (by kernel_rfl))
          have k6 := hF 6 (notDst_spec (by kernel_rfl))
          have k7 := hF 7 (notDst_spec (by kernel_rfl))
          have k8 := hF 8 (notDst_spec (by kernel_rfl))
          have k9 := hF 9 (notDst_spec (by kernel_rfl))
          have k10 := hF 10 (notDst_spec (by kernel_rfl))
          have k11 := hF 11 (notDst_spec (by kernel_rfl))
          have k12 := hF 12 (notDst_spec (by kernel_rfl))
          have k13 := hF 13 (notDst_spec (by kernel_rfl))
          have k14 := hF 14 (notDst_spec (by kernel_rfl))
          have k15 := hF 15 (notDst_spec (by kernel_rfl))
          have k16 := hF 16 (notDst_spec (by kernel_rfl))
          have k17 := hF 17 (notDst_spec (by kernel_rfl))
          have k18 := hF 18 (notDst_spec (by kernel_rfl))
          have k19 := hF 19 (notDst_spec (by kernel_rfl))
          have k20 := hF 20 (notDst_spec (by kernel_rfl))
          have k21 := hF 21 (notDst_spec (by kernel_rfl))
          have k22 := hF 22 (notDst_spec (by kernel_rfl))
          have k23 := hF 23 (notDst_spec (by kernel_rfl))
          have k24 := hF 24 (notDst_spec (by kernel_rfl))
          have k25 := hF 25 (notDst_spec (by kernel_rfl))
          have k26 := hF 26 (notDst_spec (by kernel_rfl))
          have k27 := hF 27 (notDst_spec (by kernel_rfl))
          have k48 := hF 48 (notDst_spec (by kernel_rfl))
          simp only [Array.getD_eq_getD_getElem?, List.getElem?_toArray, List.getElem?_cons_succ, List.getElem?_cons_zero, Option.getD_some] at k0 k1 k2 k3 k4 k5 k6 k7 k8 k9 k10 k11 k12 k13 k14 k15 k16 k17 k18 k19 k20 k21 k22 k23 k24 k25 k26 k27 k48
          simp only [k0, k1, k2, k3, k4, k5, k6, k7, k8, k9, k10, k11, k12, k13, k14, k15, k16, k17, k18, k19, k20, k21, k22, k23, k24, k25, k26, k27, k48]
          clear k0 k1 k2 k3 k4 k5 k6 k7 k8 k9 k10 k11 k12 k13 k14 k15 k16 k17 k18 k19 k20 k21 k22 k23 k24 k25 k26 k27 k48
          clear hF hV hsz
          change wpAny _ _ _ _ 1 _ _ _
          refine wpAny_ready (rs := [20]) (by kernel_rfl) (by simp) ?_
          refine AllReady.cons (i := 20) rfl (fun K hK => ?_) AllReady.nil
          go_simp
          refine hK _ _ ?_
          clear hK K
          refine ⟨by kernel_rfl, ?_⟩
          have rb6 := Lib.hid (rb5.out.below hR9)
          have Z6 := Lib.hid (btrans Z5.out hR9)
          clear hR9 FD FA FB FC c0 c1 c2 c3 Z5 b35 rb5 k1 k2 k3 k4 k5 k6 k7
          go_wp2
          go_roundw
          case rel => exact ⟨k + 1, _, rfl, by go_num, by omega, J2, rb6, Z6⟩
          case measure => simp [intOf]; omega
      · have hlI : ¬ (k : Int) < (nn : Int) := by omega
        have he : s = res := by
          rw [J.out, hres.out, show k = nn by omega, FINS.out]
        subst he
        clear FINS LSN NOK NDS LEN J rbr
        go_wp2
        go_ret
        exact ⟨rfl, Z.out⟩
set_option maxRecDepth 8000 in
set_option maxHeartbeats 4000000 in
theorem rtext_any (w : World) (ai an : Option Addr) (ci cn : Nat) (A : AU) (h : AuAt w ai A.init.length an A.nodes.length A) (ok : AuOk A) (few : AuFew A) :
    Calls Tryd.prog 11 #[.agg #[.int .i64 A.sets, .slice ai A.init.length ci, .slice an A.nodes.length cn]] w fun e w' => TextV w A e w' := by
  have CK : Hid (∀ v, Below w.heap.size w v → Calls Tryd.prog 15 #[.agg #[.int .i64 A.sets, .slice ai A.init.length ci, .slice an A.nodes.length cn]] v fun e w' => e = .returned (.int .i64 (chk A)) ∧ Below v.heap.size v w') := fun v hb => rcheck_any v ai an ci cn A (h.below hb) ok
  obtain ⟨js, hjs⟩ : ∃ js : ByteArray, js = ⟨(wholeP A).toArray⟩ := ⟨_, rfl⟩
  have WH : Hid (∀ v, Below w.heap.size w v → Calls Tryd.prog 20 #[.agg #[.int .i64 A.sets, .slice ai A.init.length ci, .slice an A.nodes.length cn]] v fun e w' => e = .returned (.string js) ∧ Below v.heap.size v w') := fun v hb => by
    rw [hjs]
    exact rwhole_any v ai an ci cn A (h.below hb) ok few
  have hsz : js.size = (wholeP A).length := by rw [hjs]; exact List.size_toArray
  have TX : Hid (∀ v, Below w.heap.size w v → (chk A ≠ 0 → TextV w A (.returned (.tuple #[.string ⟨#[]⟩, .int .i64 (chk A)])) v) ∧ (chk A = 0 → 20000 < js.size → TextV w A (.returned (.tuple #[.string ⟨#[]⟩, .int .i64 5])) v) ∧ (chk A = 0 → ¬ 20000 < js.size → TextV w A (.returned (.tuple #[.string js, .int .i64 0])) v)) := fun v hb => by
    unfold TextV textP
    refine ⟨fun h0 => ?_, fun h0 h1 => ?_, fun h0 h1 => ?_⟩
    · rw [if_pos h0]; exact ⟨rfl, hb⟩
    · rw [if_neg (fun h => h h0), if_pos (by omega)]; exact ⟨rfl, hb⟩
    · rw [if_neg (fun h => h h0), if_neg (by omega), hjs]; exact ⟨rfl, hb⟩
  generalize hc : chk A = c at CK TX
  generalize A.sets = sets at CK WH ⊢
  generalize A.init.length = ni at CK WH ⊢
  generalize A.nodes.length = nn at CK WH ⊢
  obtain ⟨g, hg⟩ : ∃ g, g = w.heap.size := ⟨_, rfl⟩
  obtain ⟨w1, hw1⟩ : ∃ w1, w1 = w.alloc (.cells #[.int .i64 sets, .slice ai ni ci, .slice an nn cn] AUT) := ⟨_, rfl⟩
  have rb : RowAt w1 g AUT [.int .i64 sets, .slice ai ni ci, .slice an nn cn] := by rw [hw1]; exact RowAt.new #[.int .i64 sets, .slice ai ni ci, .slice an nn cn] hg
  have B1 : Below w.heap.size w w1 := by rw [hw1]; exact balloc (Below.refl _ _) _
  have c0 : w1.cell? ⟨g, 0, none⟩ = some (.int .i64 sets) := rb.cell 0
  have c1 : w1.cell? ⟨g, 1, none⟩ = some (.slice ai ni ci) := rb.cell 1
  have c2 : w1.cell? ⟨g, 2, none⟩ = some (.slice an nn cn) := rb.cell 2
  have C1 := Lib.hid (CK.out w1 B1)
  replace B1 := Lib.hid B1
  replace rb := Lib.hid rb
  replace hg := Lib.hid hg
  replace hw1 := Lib.hid hw1
  clear hc h ok few hjs hsz CK
  go_enter Tryd.func11, Tryd.ntmps11
  go_upto_region 1 with (fail)
  rw [← hw1.out, ← hg.out]
  go_wp2_with fail
  refine C1.out.mono ?_
  rintro e w2 ⟨rfl, hb2⟩
  have rb2 := rb.out.below hb2
  have d0 : w2.cell? ⟨g, 0, none⟩ = some (.int .i64 sets) := rb2.cell 0
  have d1 : w2.cell? ⟨g, 1, none⟩ = some (.slice ai ni ci) := rb2.cell 1
  have d2 : w2.cell? ⟨g, 2, none⟩ = some (.slice an nn cn) := rb2.cell 2
  have B2 := btrans B1.out hb2
  obtain ⟨T1, T2, T3⟩ := TX.out w2 B2
  replace rb2 := Lib.hid rb2
  clear hb2 C1 c0 c1 c2 rb
  by_cases hc : c = 0
  · subst hc
    have L2 := Lib.hid (WH.out w2 B2)
    replace B2 := Lib.hid B2
    clear T1 T2 T3 WH
    go_wp2_with fail
    refine L2.out.mono ?_
    rintro e w3 ⟨rfl, hb3⟩
    have B3 := btrans B2.out hb3
    obtain ⟨_, T2, T3⟩ := TX.out w3 B3
    by_cases hl : 20000 < js.size
    · have hf := Lib.hid (T2 trivial hl)
      have hlI : (20000 : Int) < (js.size : Int) := by omega
      clear T2 T3 hb3 B3 L2 TX hl
      go_wp2
      refine bodyPost_ret (v := .tuple #[.string ⟨#[]⟩, .int .i64 5]) (by simp [results, Tryd.results11]) rfl ?_
      exact hf.out
    · have hf := Lib.hid (T3 trivial hl)
      have hlI : ¬ (20000 : Int) < (js.size : Int) := by omega
      clear T2 T3 hb3 B3 L2 TX hl
      go_wp2
      refine bodyPost_ret (v := .tuple #[.string js, .int .i64 0]) (by simp [results, Tryd.results11]) rfl ?_
      exact hf.out
  · have hcB : (c != 0) = true := by rw [bne_iff_ne]; exact hc
    have hf := Lib.hid (T1 hc)
    clear T1 T2 T3 WH B2 d0 d1 d2 hc TX
    go_wp2
    refine bodyPost_ret (v := .tuple #[.string ⟨#[]⟩, .int .i64 c]) (by simp [results, Tryd.results11]) rfl ?_
    exact hf.out
end Go.Proofs.YtjacphcnanopjaaDoor
