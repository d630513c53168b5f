/- An automaton's lines and its text, walked. Conditions: what the listed variables hold; not too many numbers. -/
import Derived.Test.YtjacphcnanopjaaDoorAtN
import Derived.Test.YtjacphcnanopjaaDoorBox
import Derived.Test.YtjacphcnanopjaaDoorFree
namespace Go.Proofs.YtjacphcnanopjaaDoor
open Go.Shelf Go.RowKit
set_option linter.unusedVariables false
set_option linter.unusedSimpArgs false

theorem list_getN {l : List Value} {n : Nat} (h : l.length = n) : l = (List.range n).map fun i => l.getD i undef := by
  refine List.ext_getElem (by simp [h]) fun i h1 h2 => ?_
  simp [List.getD, List.getElem?_eq_getElem h1]
theorem frame46 (arr : Array Value) (h : arr.size = 46) : ∃ q : Nat → Value, arr = #[q 0, q 1, q 2, q 3, q 4, q 5, q 6, q 7, q 8, q 9, q 10, q 11, q 12, q 13, q 14, q 15, q 16, q 17, q 18, q 19, q 20, q 21, q 22, q 23, q 24, q 25, q 26, q 27, q 28, q 29, q 30, q 31, q 32, q 33, q 34, q 35, q 36, q 37, q 38, q 39, q 40, q 41, q 42, q 43, q 44, q 45] := by
  refine ⟨fun i => arr.toList.getD i undef, ?_⟩
  have h1 := list_getN (l := arr.toList) (n := 46) (by simpa using h)
  apply Array.ext'
  exact h1

theorem infoStr3 : (Tryd.prog.info? 9).map (fun i => (i.zero, i.size, i.bytes)) = some (some (.string ⟨#[]⟩), 1, 16) := by kernel_rfl
abbrev TAn : Nat := 38
theorem infoAn : (Tryd.prog.info? TAn).map (·.size) = some 4 := by kernel_rfl
theorem undAn : ∃ d, Tryd.prog.underlying TAn = some d ∧ d.isRow = true := und_row (by kernel_rfl)
/-- a node's cells -/
def anV (x : AN) (ta : Option Addr) (tc : Nat) : List Value := [.int .u64 x.need, .int .u64 x.ban, .int .u64 x.inn, .slice ta x.to.length tc]
theorem anV_one (x : AN) (ta : Option Addr) (tc : Nat) : ∀ v ∈ anV x ta tc, v.oneCell' = true := by
  intro v hv
  simp only [anV, List.mem_cons, List.not_mem_nil, or_false] at hv
  rcases hv with rfl | rfl | rfl | rfl <;> rfl
theorem NodeAt.range {w : World} {b off : Nat} {x : AN} (h : NodeAt w b off x) : ∃ ta tc, w.rangeAt b off (anV x ta tc) ∧ IntsAt w ta x.to := by
  obtain ⟨h0, h1, h2, ta, tc, h3, h4⟩ := h
  refine ⟨ta, tc, fun j u hj => ?_, h4⟩
  match j, hj with
  | 0, hj => cases hj; exact h0
  | 1, hj => cases hj; exact h1
  | 2, hj => cases hj; exact h2
  | 3, hj => cases hj; exact h3
/-- numbers somewhere -/
def Kp.ints (xs : List Int) : Kp := ⟨fun v w => ∃ a c, v = .slice a xs.length c ∧ IntsAt w a xs, fun v w w' h hb => by
  obtain ⟨a, c, h1, h2⟩ := h
  exact ⟨a, c, h1, h2.below hb⟩⟩
theorem own_row {w : World} {base g T : Nat} {cells : List Value} {n : Nat} (h : RowAt w g T cells) (hb : base ≤ g) (hn : cells.length = n) (hm : n ≤ 1000000) : OwnR w base T 1 (some ⟨g, 0, none⟩) n n cells := by
  unfold OwnR
  refine ⟨by omega, .inr ⟨g, n, cells.toArray, rfl, hb, h, Nat.le_refl _, by unfold maxLen; omega, by simp [hn], ?_⟩⟩
  show cells.take (n * 1) = cells
  rw [Nat.mul_one, ← hn, List.take_length]
/-- an automaton's lines, in memory -/
def LinesV (w : World) (A : AU) (e : Ending) (w' : World) : Prop := ∃ oa oc, e = .returned (.slice oa (linesP A).length oc) ∧ OwnR w' w.heap.size 9 1 oa (linesP A).length oc (strV (linesP A)) ∧ Below w.heap.size w w'
theorem lines_len (A : AU) : (linesP A).length = A.nodes.length + 2 := by
  unfold linesP
  simp only [List.length_cons, List.length_map]
theorem lines_snoc {A : AU} {k : Nat} (h : k < A.nodes.length) : strV ((linesP A).take (k + 2 + 1)) = strV ((linesP A).take (k + 2)) ++ [.string ⟨(lineN A.nodes[k]).toArray⟩] := by
  have hl : k + 2 < (linesP A).length := by rw [lines_len]; omega
  rw [List.take_succ_eq_append_getElem hl]
  unfold strV
  rw [List.map_append]
  have e2 : (linesP A)[k + 2]? = some (lineN A.nodes[k]) := by
    unfold linesP
    rw [List.getElem?_cons_succ, List.getElem?_cons_succ, List.getElem?_map, List.getElem?_eq_getElem h]
    rfl
  have e : (linesP A)[k + 2] = lineN A.nodes[k] := Option.some.inj ((List.getElem?_eq_getElem hl).symm.trans e2)
  rw [e]
  rfl
theorem bitsK_rng (u : Nat) : ∀ n ∈ bitsK u 64, -9223372036854775808 ≤ n ∧ n ≤ 9223372036854775807 := fun n hn => by
  unfold bitsK at hn
  obtain ⟨i, hi, rfl⟩ := List.mem_map.1 hn
  have := List.mem_range.1 (List.mem_filter.1 hi).1
  omega
theorem fld_any (w : World) (hd : Door w) (wd sg : ByteArray) (a : Option Addr) (c : Nat) (l : List Int) (s : ByteArray) (hs : s = ⟨(wd.data.toList ++ fldW sg.data.toList l).toArray⟩) (h : IntsAt w a l) (hr : ∀ n ∈ l, -9223372036854775808 ≤ n ∧ n ≤ 9223372036854775807) (hl : l.length ≤ 100000) (hwd : wd.size ≤ 100) (hsg : sg.size ≤ 10) :
    Calls Tryd.prog 36 #[.string wd, .string sg, .slice a l.length c] w fun e w' => e = .returned (.string s) ∧ Below w.heap.size w w' := by
  subst hs
  exact fields_any w hd wd sg a c l h hr hl hwd hsg
theorem fld_size (wd sg : ByteArray) (l : List Int) (s : ByteArray) (hs : s = ⟨(wd.data.toList ++ fldW sg.data.toList l).toArray⟩) (hr : ∀ n ∈ l, -9223372036854775808 ≤ n ∧ n ≤ 9223372036854775807) (hl : l.length ≤ 100000) (hwd : wd.size ≤ 100) (hsg : sg.size ≤ 10) : s.size ≤ 4000000 := by
  have h1 := fldW_len sg.data.toList l hr
  rw [← size_data] at h1
  have h2 : l.length * (sg.size + 22) ≤ 100000 * 32 := Nat.mul_le_mul hl (by omega)
  have h3 : s.size = (wd.data.toList ++ fldW sg.data.toList l).length := by rw [hs]; exact List.size_toArray
  rw [h3, List.length_append, ← size_data]
  omega
theorem nums_row1 {w : World} {g T : Nat} {v : Int} (h : RowAt w g T [.int .i64 v]) : IntsAt w (some ⟨g, 0, none⟩) [v] := fun _ => ⟨g, 0, rfl, fun i hi => by
  match i, hi with
  | 0, _ => exact h.cell 0⟩
set_option maxRecDepth 8000 in
set_option maxHeartbeats 16000000 in
theorem lines_any (w : World) (hd : Door w) (ai an : Option Addr) (ci cn : Nat) (A : AU) (h : AuAt w ai A.init.length an A.nodes.length A) (ok : AuOk A) (hnl : A.nodes.length ≤ 100000) (hil : A.init.length ≤ 100000) (htl : ∀ x ∈ A.nodes, x.to.length ≤ 100000) :
    Calls Tryd.prog 19 #[.agg #[.int .i64 A.sets, .slice ai A.init.length ci, .slice an A.nodes.length cn]] w fun e w' => LinesV w A e w' := by
  obtain ⟨s1, hs1⟩ : ∃ s : ByteArray, s = ⟨((⟨#[97, 117, 116, 111]⟩ : ByteArray).data.toList ++ fldW (⟨#[]⟩ : ByteArray).data.toList [A.sets]).toArray⟩ := ⟨_, rfl⟩
  obtain ⟨s2, hs2⟩ : ∃ s : ByteArray, s = ⟨((⟨#[105, 110, 105, 116]⟩ : ByteArray).data.toList ++ fldW (⟨#[]⟩ : ByteArray).data.toList A.init).toArray⟩ := ⟨_, rfl⟩
  have F1 : Hid (∀ v, Below w.heap.size w v → ∀ a c, IntsAt v a [A.sets] → Calls Tryd.prog 36 #[.string ⟨#[97, 117, 116, 111]⟩, .string ⟨#[]⟩, .slice a 1 c] v fun e w' => e = .returned (.string s1) ∧ Below v.heap.size v w') := fun v hb a c hi =>
    fld_any v (hd.below hb) ⟨#[97, 117, 116, 111]⟩ ⟨#[]⟩ a c [A.sets] s1 hs1 hi (fun n hn => by rw [List.mem_singleton] at hn; subst hn; exact ok.sets) (by show 1 ≤ 100000; decide) (by decide) (by decide)
  have F2 : Hid (∀ v, Below w.heap.size w v → Calls Tryd.prog 36 #[.string ⟨#[105, 110, 105, 116]⟩, .string ⟨#[]⟩, .slice ai A.init.length ci] v fun e w' => e = .returned (.string s2) ∧ Below v.heap.size v w') := fun v hb =>
    fld_any v (hd.below hb) ⟨#[105, 110, 105, 116]⟩ ⟨#[]⟩ ai ci A.init s2 hs2 (h.init.below hb) ok.init hil (by decide) (by decide)
  have L0 : Hid (strV ((linesP A).take 2) = [.string s1, .string s2]) := by
    show _ = _
    rw [hs1, hs2]
    show [Value.string ⟨(lineA A.sets).toArray⟩, Value.string ⟨(lineI A.init).toArray⟩] = _
    unfold lineA lineI
    rw [show ([Lib.itoa A.sets] : List (List UInt8)) = [A.sets].map Lib.itoa from rfl, joinF_ints, joinF_ints]
  have NDS : Hid (∀ v, Below w.heap.size w v → NodesAt v an A.nodes) := fun v hb => h.nodes.below hb
  have PLA : Hid (∀ v u, u64ok u → Calls Tryd.prog 37 #[.int .u64 (u : Int)] v (GivesN v (bitsK u 64))) := fun v u hu => places_any v u hu
  have NOK : Hid (∀ x ∈ A.nodes, u64ok x.need ∧ u64ok x.ban ∧ u64ok x.inn ∧ ∀ n ∈ x.to, -9223372036854775808 ≤ n ∧ n ≤ 9223372036854775807) := fun x hx => by
    obtain ⟨h0, h1, h2, _, h3⟩ := ok.nodes x hx
    exact ⟨h0, h1, h2, h3⟩
  have LSN : Hid (∀ k (hk : k < A.nodes.length), strV ((linesP A).take (k + 2 + 1)) = strV ((linesP A).take (k + 2)) ++ [.string ⟨(lineN A.nodes[k]).toArray⟩]) := fun k hk => lines_snoc hk
  have FIN : Hid (∀ oa oc v, OwnR v w.heap.size 9 1 oa (A.nodes.length + 2) oc (strV ((linesP A).take (A.nodes.length + 2))) → Below w.heap.size w v → LinesV w A (.returned (.slice oa (A.nodes.length + 2) oc)) v) := fun oa oc v ho hb => by
    have hl := lines_len A
    rw [← hl] at ho ⊢
    rw [List.take_length] at ho
    exact ⟨oa, oc, rfl, ho, hb⟩
  obtain ⟨sets, hsets⟩ : ∃ s, s = A.sets := ⟨_, rfl⟩
  obtain ⟨ni, hni⟩ : ∃ n, n = A.init.length := ⟨_, rfl⟩
  obtain ⟨nn, hnn⟩ : ∃ n, n = A.nodes.length := ⟨_, rfl⟩
  rw [← hsets] at F1 ⊢
  rw [← hni] at F2 ⊢
  rw [← hnn] at FIN ⊢
  have hnI : (nn : Int) ≤ 100000 := by omega
  obtain ⟨g, hg⟩ : ∃ g, g = w.heap.size := ⟨_, rfl⟩
  obtain ⟨w1, hw1⟩ : ∃ w1, w1 = w.alloc (.cells #[.int .i64 sets, .slice ai ni ci, .slice an nn cn] AUT) := ⟨_, rfl⟩
  have rb : RowAt w1 g AUT [.int .i64 sets, .slice ai ni ci, .slice an nn cn] := by rw [hw1]; exact RowAt.new #[.int .i64 sets, .slice ai ni ci, .slice an nn cn] hg
  have B1 : Below w.heap.size w w1 := by rw [hw1]; exact balloc (Below.refl _ _) _
  have c0 : w1.cell? ⟨g, 0, none⟩ = some (.int .i64 sets) := rb.cell 0
  have c1 : w1.cell? ⟨g, 1, none⟩ = some (.slice ai ni ci) := rb.cell 1
  have c2 : w1.cell? ⟨g, 2, none⟩ = some (.slice an nn cn) := rb.cell 2
  replace B1 := Lib.hid B1
  replace hg := Lib.hid hg
  replace hw1 := Lib.hid hw1
  replace hnn := Lib.hid hnn
  replace htl := Lib.hid htl
  replace hd := Lib.hid hd
  clear hsets hni hs1 hs2 h ok hnl hil rb
  go_enter Tryd.func19, Tryd.ntmps19
  go_upto_region 1 with (fail)
  rw [← hw1.out, ← hg.out]
  refine wp_region_kp (by kernel_rfl) 9 [.fix (.pointer (some ⟨g, 0, none⟩)), .fix (.int .i64 sets), Kp.row w1.heap.size 3 1 [.int .i64 sets], .fix (.string s1), .fix (.pointer (some ⟨g, 1, none⟩)), .fix (.slice ai ni ci), .fix (.string s2), Kp.row w1.heap.size 9 2 [.string s1, .string s2], Kp.row w1.heap.size 9 2 [.string s1, .string s2]] (by kernel_rfl) (by kernel_rfl) (by kernel_rfl) ?_ ?_
  · intro i hi
    match i, hi with
    | 0, _ =>
      intro o ho ac w' hR hF hD K hK
      simp only [List.getElem?_toArray, List.getElem?_cons_zero, Option.some.injEq] at ho
      subst ho
      have e1 : ac.tmps.getD 1 undef = .pointer (some ⟨g, 0, none⟩) := hF 1 (notDst_spec (by kernel_rfl))
      have d1 := (Array.getD_eq_getD_getElem? (xs := ac.tmps) (i := 1) (d := undef)).symm.trans e1
      clear hD hF
      go_simp
      exact hK _ _ (Below.refl _ _) rfl
    | 1, _ =>
      intro o ho ac w' hR hF hD K hK
      simp only [List.getElem?_toArray, List.getElem?_cons_zero, List.getElem?_cons_succ, Option.some.injEq] at ho
      subst ho
      have e7 : ac.tmps.getD 7 undef = .pointer (some ⟨g, 0, none⟩) := hD 0 (dep_spec (by kernel_rfl)) 7 rfl
      have d7 := (Array.getD_eq_getD_getElem? (xs := ac.tmps) (i := 7) (d := undef)).symm.trans e7
      clear hD hF
      have q0 : w'.cell? ⟨g, 0, none⟩ = some (.int .i64 sets) := bcell hR c0
      go_simp
      exact hK _ _ (Below.refl _ _) rfl
    | 2, _ =>
      intro o ho ac w' hR hF hD K hK
      simp only [List.getElem?_toArray, List.getElem?_cons_zero, List.getElem?_cons_succ, Option.some.injEq] at ho
      subst ho
      have e8 : ac.tmps.getD 8 undef = .int .i64 sets := hD 1 (dep_spec (by kernel_rfl)) 8 rfl
      have d8 := (Array.getD_eq_getD_getElem? (xs := ac.tmps) (i := 8) (d := undef)).symm.trans e8
      clear hD hF
      go_simp
      exact hK _ _ (balloc (Below.refl _ _) _) ⟨_, rfl, hR.size, RowAt.new #[.int .i64 sets] rfl⟩
    | 3, _ =>
      intro o ho ac w' hR hF hD K hK
      simp only [List.getElem?_toArray, List.getElem?_cons_zero, List.getElem?_cons_succ, Option.some.injEq] at ho
      subst ho
      have y9 := hD 2 (dep_spec (by kernel_rfl)) 9 rfl
      obtain ⟨g9, e9, hg9, r9⟩ := y9
      have d9 := (Array.getD_eq_getD_getElem? (xs := ac.tmps) (i := 9) (d := undef)).symm.trans e9
      clear hD hF
      go_simp
      refine (F1.out w' (btrans B1.out hR) _ _ (nums_row1 r9)).mono ?_
      rintro e w2 ⟨rfl, hb2⟩
      exact hK _ _ hb2 rfl
    | 4, _ =>
      intro o ho ac w' hR hF hD K hK
      simp only [List.getElem?_toArray, List.getElem?_cons_zero, List.getElem?_cons_succ, Option.some.injEq] at ho
      subst ho
      have e1 : ac.tmps.getD 1 undef = .pointer (some ⟨g, 0, none⟩) := hF 1 (notDst_spec (by kernel_rfl))
      have d1 := (Array.getD_eq_getD_getElem? (xs := ac.tmps) (i := 1) (d := undef)).symm.trans e1
      clear hD hF
      go_simp
      exact hK _ _ (Below.refl _ _) rfl
    | 5, _ =>
      intro o ho ac w' hR hF hD K hK
      simp only [List.getElem?_toArray, List.getElem?_cons_zero, List.getElem?_cons_succ, Option.some.injEq] at ho
      subst ho
      have e11 : ac.tmps.getD 11 undef = .pointer (some ⟨g, 1, none⟩) := hD 4 (dep_spec (by kernel_rfl)) 11 rfl
      have d11 := (Array.getD_eq_getD_getElem? (xs := ac.tmps) (i := 11) (d := undef)).symm.trans e11
      clear hD hF
      have q1 : w'.cell? ⟨g, 1, none⟩ = some (.slice ai ni ci) := bcell hR c1
      go_simp
      exact hK _ _ (Below.refl _ _) rfl
    | 6, _ =>
      intro o ho ac w' hR hF hD K hK
      simp only [List.getElem?_toArray, List.getElem?_cons_zero, List.getElem?_cons_succ, Option.some.injEq] at ho
      subst ho
      have e10 : ac.tmps.getD 10 undef = .string s1 := hD 3 (dep_spec (by kernel_rfl)) 10 rfl
      have d10 := (Array.getD_eq_getD_getElem? (xs := ac.tmps) (i := 10) (d := undef)).symm.trans e10
      have e12 : ac.tmps.getD 12 undef = .slice ai ni ci := hD 5 (dep_spec (by kernel_rfl)) 12 rfl
      have d12 := (Array.getD_eq_getD_getElem? (xs := ac.tmps) (i := 12) (d := undef)).symm.trans e12
      clear hD hF
      go_simp
      refine (F2.out w' (btrans B1.out hR)).mono ?_
      rintro e w2 ⟨rfl, hb2⟩
      exact hK _ _ hb2 rfl
    | 7, _ =>
      intro o ho ac w' hR hF hD K hK
      simp only [List.getElem?_toArray, List.getElem?_cons_zero, List.getElem?_cons_succ, Option.some.injEq] at ho
      subst ho
      have e10 : ac.tmps.getD 10 undef = .string s1 := hD 3 (dep_spec (by kernel_rfl)) 10 rfl
      have d10 := (Array.getD_eq_getD_getElem? (xs := ac.tmps) (i := 10) (d := undef)).symm.trans e10
      have e13 : ac.tmps.getD 13 undef = .string s2 := hD 6 (dep_spec (by kernel_rfl)) 13 rfl
      have d13 := (Array.getD_eq_getD_getElem? (xs := ac.tmps) (i := 13) (d := undef)).symm.trans e13
      clear hD hF
      go_simp
      exact hK _ _ (balloc (Below.refl _ _) _) ⟨_, rfl, hR.size, RowAt.new #[.string s1, .string s2] rfl⟩
    | 8, _ =>
      intro o ho ac w' hR hF hD K hK
      simp only [List.getElem?_toArray, List.getElem?_cons_zero, List.getElem?_cons_succ, Option.some.injEq] at ho
      subst ho
      have e7 : ac.tmps.getD 7 undef = .pointer (some ⟨g, 0, none⟩) := hD 0 (dep_spec (by kernel_rfl)) 7 rfl
      have d7 := (Array.getD_eq_getD_getElem? (xs := ac.tmps) (i := 7) (d := undef)).symm.trans e7
      have e8 : ac.tmps.getD 8 undef = .int .i64 sets := hD 1 (dep_spec (by kernel_rfl)) 8 rfl
      have d8 := (Array.getD_eq_getD_getElem? (xs := ac.tmps) (i := 8) (d := undef)).symm.trans e8
      have y9 := hD 2 (dep_spec (by kernel_rfl)) 9 rfl
      obtain ⟨g9, e9, hg9, r9⟩ := y9
      have d9 := (Array.getD_eq_getD_getElem? (xs := ac.tmps) (i := 9) (d := undef)).symm.trans e9
      have e10 : ac.tmps.getD 10 undef = .string s1 := hD 3 (dep_spec (by kernel_rfl)) 10 rfl
      have d10 := (Array.getD_eq_getD_getElem? (xs := ac.tmps) (i := 10) (d := undef)).symm.trans e10
      have e11 : ac.tmps.getD 11 undef = .pointer (some ⟨g, 1, none⟩) := hD 4 (dep_spec (by kernel_rfl)) 11 rfl
      have d11 := (Array.getD_eq_getD_getElem? (xs := ac.tmps) (i := 11) (d := undef)).symm.trans e11
      have e12 : ac.tmps.getD 12 undef = .slice ai ni ci := hD 5 (dep_spec (by kernel_rfl)) 12 rfl
      have d12 := (Array.getD_eq_getD_getElem? (xs := ac.tmps) (i := 12) (d := undef)).symm.trans e12
      have e13 : ac.tmps.getD 13 undef = .string s2 := hD 6 (dep_spec (by kernel_rfl)) 13 rfl
      have d13 := (Array.getD_eq_getD_getElem? (xs := ac.tmps) (i := 13) (d := undef)).symm.trans e13
      have y14 := hD 7 (dep_spec (by kernel_rfl)) 14 rfl
      obtain ⟨g14, e14, hg14, r14⟩ := y14
      have d14 := (Array.getD_eq_getD_getElem? (xs := ac.tmps) (i := 14) (d := undef)).symm.trans e14
      clear hD hF
      go_simp
      exact hK _ _ (Below.refl _ _) ⟨g14, rfl, hg14, r14⟩
    | k + 9, hk => omega
  · rintro ⟨tm, df⟩ w5 hdf hsz hF hR9 hV
    obtain rfl : df = [] := hdf
    obtain ⟨q, rfl⟩ := frame46 tm hsz
    have h8 := hV 8 3 (by decide) rfl
    obtain ⟨g14, e14, hg14, r14⟩ : ∃ g, q 3 = .slice (some ⟨g, 0, none⟩) 2 2 ∧ w1.heap.size ≤ g ∧ RowAt w5 g 9 [.string s1, .string s2] := h8
    simp only [e14]
    clear e14
    have k0 := hF 0 (notDst_spec (by kernel_rfl))
    have k1 := hF 1 (notDst_spec (by kernel_rfl))
    have k2 := hF 2 (notDst_spec (by kernel_rfl))
    have k4 := hF 4 (notDst_spec (by kernel_rfl))
    have k5 := hF 5 (notDst_spec (by kernel_rfl))
    have k6 := hF 6 (notDst_spec (by kernel_rfl))
    have k15 := hF 15 (notDst_spec (by kernel_rfl))
    have k16 := hF 16 (notDst_spec (by kernel_rfl))
    have k17 := hF 17 (notDst_spec (by kernel_rfl))
    have k18 := hF 18 (notDst_spec (by kernel_rfl))
    have k19 := hF 19 (notDst_spec (by kernel_rfl))
    have k20 := hF 20 (notDst_spec (by kernel_rfl))
    have k21 := hF 21 (notDst_spec (by kernel_rfl))
    have k22 := hF 22 (notDst_spec (by kernel_rfl))
    have k23 := hF 23 (notDst_spec (by kernel_rfl))
    have k24 := hF 24 (notDst_spec (by kernel_rfl))
    have k25 := hF 25 (notDst_spec (by kernel_rfl))
    have k26 := hF 26 (notDst_spec (by kernel_rfl))
    have k27 := hF 27 (notDst_spec (by kernel_rfl))
    have k28 := hF 28 (notDst_spec (by kernel_rfl))
    have k29 := hF 29 (notDst_spec (by kernel_rfl))
    have k30 := hF 30 (notDst_spec (by kernel_rfl))
    have k31 := hF 31 (notDst_spec (by kernel_rfl))
    have k32 := hF 32 (notDst_spec (by kernel_rfl))
    have k33 := hF 33 (notDst_spec (by kernel_rfl))
    have k34 := hF 34 (notDst_spec (by kernel_rfl))
    have k35 := hF 35 (notDst_spec (by kernel_rfl))
    have k36 := hF 36 (notDst_spec (by kernel_rfl))
    have k37 := hF 37 (notDst_spec (by kernel_rfl))
    have k38 := hF 38 (notDst_spec (by kernel_rfl))
    have k39 := hF 39 (notDst_spec (by kernel_rfl))
    have k40 := hF 40 (notDst_spec (by kernel_rfl))
    have k41 := hF 41 (notDst_spec (by kernel_rfl))
    have k42 := hF 42 (notDst_spec (by kernel_rfl))
    have k43 := hF 43 (notDst_spec (by kernel_rfl))
    have k44 := hF 44 (notDst_spec (by kernel_rfl))
    have k45 := hF 45 (notDst_spec (by kernel_rfl))
    simp only [Array.getD_eq_getD_getElem?, List.getElem?_toArray, List.getElem?_cons_succ, List.getElem?_cons_zero, Option.getD_some] at k0 k1 k2 k4 k5 k6 k15 k16 k17 k18 k19 k20 k21 k22 k23 k24 k25 k26 k27 k28 k29 k30 k31 k32 k33 k34 k35 k36 k37 k38 k39 k40 k41 k42 k43 k44 k45
    simp only [k0, k1, k2, k4, k5, k6, k15, k16, k17, k18, k19, k20, k21, k22, k23, k24, k25, k26, k27, k28, k29, k30, k31, k32, k33, k34, k35, k36, k37, k38, k39, k40, k41, k42, k43, k44, k45]
    clear k0 k1 k2 k4 k5 k6 k15 k16 k17 k18 k19 k20 k21 k22 k23 k24 k25 k26 k27 k28 k29 k30 k31 k32 k33 k34 k35 k36 k37 k38 k39 k40 k41 k42 k43 k44 k45
    clear hF hV hsz
    change wpAny _ _ _ _ 0 _ _ _
    refine ⟨by kernel_rfl, ?_⟩
    have c2 : w5.cell? ⟨g, 2, none⟩ = some (.slice an nn cn) := bcell hR9 c2
    have O2 : Hid (OwnR w5 w.heap.size 9 1 (some ⟨g14, 0, none⟩) 2 2 (strV ((linesP A).take (0 + 2)))) := by
      show OwnR _ _ _ _ _ _ _ _
      rw [show 0 + 2 = 2 from rfl, L0.out]
      exact own_row r14 (Nat.le_trans B1.out.size hg14) rfl (by decide)
    have Z5 : Hid (Below w.heap.size w w5) := btrans B1.out hR9
    clear hR9 r14 hg14 F1 F2 L0 c0 c1
    go_wp2
    go_loopw [3, 18] (fun ov iv wr => ∃ (k n : Nat) (oa : Option Addr) (oc : Nat), ov = .slice oa n oc ∧ iv = .int .i64 (k : Int) ∧ Hid (n = k + 2) ∧ k ≤ nn ∧ Hid (OwnR wr w.heap.size 9 1 oa n oc (strV ((linesP A).take (k + 2)))) ∧ Hid (Below w.heap.size w wr)) (fun _ iv _ => nn - (intOf iv).toNat)
    case atStart => exact ⟨0, 2, _, 2, rfl, rfl, rfl, Nat.zero_le _, O2, Z5⟩
    case round =>
      obtain ⟨k, n, oa, oc, rfl, rfl, hn2, hk, own, Z⟩ := hrel
      clear O2 Z5 c2
      by_cases hlt : k < nn
      · have hlI : (k : Int) < (nn : Int) := by omega
        have hn3 : Hid (n + 1 = k + 1 + 2) := by show _ = _; have := hn2.out; omega
        have hnb : n ≤ 100002 := by have := hn2.out; omega
        have hkA : k < A.nodes.length := by have := hnn.out; omega
        obtain ⟨b, off, ea, hnode⟩ := (NDS.out wr Z.out).at k hkA
        have hsn := LSN.out k hkA
        obtain ⟨nk1, nk2, nk3, nk4⟩ := NOK.out _ (List.getElem_mem hkA)
        have nk5 := htl.out _ (List.getElem_mem hkA)
        obtain ⟨x, hx⟩ : ∃ x, x = A.nodes[k] := ⟨_, rfl⟩
        rw [← hx] at hnode hsn nk1 nk2 nk3 nk4 nk5
        obtain ⟨ta, tc, rng, nto⟩ := hnode.range
        obtain ⟨sA, hA⟩ : ∃ s : ByteArray, s = ⟨((⟨#[110, 111, 100, 101]⟩ : ByteArray).data.toList ++ fldW (⟨#[43]⟩ : ByteArray).data.toList (bitsK x.need 64)).toArray⟩ := ⟨_, rfl⟩
        obtain ⟨sB, hB⟩ : ∃ s : ByteArray, s = ⟨((⟨#[]⟩ : ByteArray).data.toList ++ fldW (⟨#[45]⟩ : ByteArray).data.toList (bitsK x.ban 64)).toArray⟩ := ⟨_, rfl⟩
        obtain ⟨sC, hC⟩ : ∃ s : ByteArray, s = ⟨((⟨#[]⟩ : ByteArray).data.toList ++ fldW (⟨#[64]⟩ : ByteArray).data.toList (bitsK x.inn 64)).toArray⟩ := ⟨_, rfl⟩
        obtain ⟨sD, hD⟩ : ∃ s : ByteArray, s = ⟨((⟨#[32, 116, 111]⟩ : ByteArray).data.toList ++ fldW (⟨#[]⟩ : ByteArray).data.toList x.to).toArray⟩ := ⟨_, rfl⟩
        have hbk : ∀ u, (bitsK u 64).length ≤ 100000 := fun u => Nat.le_trans (bitsK_le u 64) (by decide)
        have zA := fld_size _ _ _ sA hA (bitsK_rng _) (hbk _) (by decide) (by decide)
        have zB := fld_size _ _ _ sB hB (bitsK_rng _) (hbk _) (by decide) (by decide)
        have zC := fld_size _ _ _ sC hC (bitsK_rng _) (hbk _) (by decide) (by decide)
        have zD := fld_size _ _ _ sD hD nk4 nk5 (by decide) (by decide)
        have ALL : Hid ((⟨(lineN x).toArray⟩ : ByteArray) = sA ++ sB ++ sC ++ sD) := by
          show _ = _
          refine (str_eq _ _).2 ?_
          rw [cat_data, cat_data, cat_data, hA, hB, hC, hD, lineN_fld]
          rfl
        have FA : Hid (∀ v, Below wr.heap.size wr v → ∀ a c, IntsAt v a (bitsK x.need 64) → Calls Tryd.prog 36 #[.string ⟨#[110, 111, 100, 101]⟩, .string ⟨#[43]⟩, .slice a (bitsK x.need 64).length c] v fun e w' => e = .returned (.string sA) ∧ Below v.heap.size v w') := fun v hb a c hi => fld_any v (hd.out.below (btrans Z.out hb)) _ _ a c _ sA hA hi (bitsK_rng _) (hbk _) (by decide) (by decide)
        have FB : Hid (∀ v, Below wr.heap.size wr v → ∀ a c, IntsAt v a (bitsK x.ban 64) → Calls Tryd.prog 36 #[.string ⟨#[]⟩, .string ⟨#[45]⟩, .slice a (bitsK x.ban 64).length c] v fun e w' => e = .returned (.string sB) ∧ Below v.heap.size v w') := fun v hb a c hi => fld_any v (hd.out.below (btrans Z.out hb)) _ _ a c _ sB hB hi (bitsK_rng _) (hbk _) (by decide) (by decide)
        have FC : Hid (∀ v, Below wr.heap.size wr v → ∀ a c, IntsAt v a (bitsK x.inn 64) → Calls Tryd.prog 36 #[.string ⟨#[]⟩, .string ⟨#[64]⟩, .slice a (bitsK x.inn 64).length c] v fun e w' => e = .returned (.string sC) ∧ Below v.heap.size v w') := fun v hb a c hi => fld_any v (hd.out.below (btrans Z.out hb)) _ _ a c _ sC hC hi (bitsK_rng _) (hbk _) (by decide) (by decide)
        have FD : Hid (∀ v, Below wr.heap.size wr v → Calls Tryd.prog 36 #[.string ⟨#[32, 116, 111]⟩, .string ⟨#[]⟩, .slice ta x.to.length tc] v fun e w' => e = .returned (.string sD) ∧ Below v.heap.size v w') := fun v hb => fld_any v (hd.out.below (btrans Z.out hb)) _ _ ta tc _ sD hD (nto.below hb) nk4 nk5 (by decide) (by decide)
        have PA : Hid (∀ v, Calls Tryd.prog 37 #[.int .u64 (x.need : Int)] v (GivesN v (bitsK x.need 64))) := fun v => PLA.out v _ nk1
        have PB : Hid (∀ v, Calls Tryd.prog 37 #[.int .u64 (x.ban : Int)] v (GivesN v (bitsK x.ban 64))) := fun v => PLA.out v _ nk2
        have PC : Hid (∀ v, Calls Tryd.prog 37 #[.int .u64 (x.inn : Int)] v (GivesN v (bitsK x.inn 64))) := fun v => PLA.out v _ nk3
        rw [ALL.out] at hsn
        have k1 : ¬ 9223372036854775807 < sA.size + sB.size := by omega
        have k2 : ¬ 9223372036854775807 < sA.size + sB.size + sC.size := by omega
        have k3 : ¬ 9223372036854775807 < sA.size + sB.size + sC.size + sD.size := by omega
        replace hsn := Lib.hid hsn
        replace rng := Lib.hid rng
        have ROW : Hid ((anV x ta tc).length = 4) := rfl
        have C3 : Hid ((anV x ta tc)[0]? = some (.int .u64 (x.need : Int)) ∧ (anV x ta tc)[1]? = some (.int .u64 (x.ban : Int)) ∧ (anV x ta tc)[2]? = some (.int .u64 (x.inn : Int)) ∧ (anV x ta tc)[3]? = some (.slice ta x.to.length tc)) := ⟨rfl, rfl, rfl, rfl⟩
        have ONE : Hid (∀ v ∈ anV x ta tc, v.oneCell' = true) := anV_one x ta tc
        subst ea
        generalize anV x ta tc = row at rng ROW C3 ONE
        obtain ⟨tl, htl'⟩ : ∃ tl, tl = x.to.length := ⟨_, rfl⟩
        rw [← htl'] at C3 FD
        obtain ⟨xn, hxn⟩ : ∃ q, q = x.need := ⟨_, rfl⟩
        obtain ⟨xb, hxb⟩ : ∃ q, q = x.ban := ⟨_, rfl⟩
        obtain ⟨xi, hxi⟩ : ∃ q, q = x.inn := ⟨_, rfl⟩
        rw [← hxn] at C3 FA PA
        rw [← hxb] at C3 FB PB
        rw [← hxi] at C3 FC PC
        clear hx hnode nk1 nk2 nk3 nk4 nk5 hA hB hC hD hbk zA zB zC zD ALL nto htl' hxn hxb hxi LSN NOK PLA NDS FIN hkA
        go_upto_region 4 with (fail)
        refine wp_region_list ?_
        refine wpList_plain rfl (fun K hK => ?_)
        go_simp
        refine hK _ _ ?_
        clear hK K
        refine wpList_load_mid rfl TAn (.tmp 20) rfl b (off + k * 4) rfl row _ rng.out undAn.choose_spec.1 undAn.choose_spec.2 (by rw [ROW.out]; kernel_rfl) ?_
        refine wpList_plain rfl (fun K hK => ?_)
        go_simp
        refine hK _ _ ?_
        clear hK K
        obtain ⟨w4, hw4⟩ : ∃ w4, w4 = wr.alloc (.cells #[.int .u64 0, .int .u64 0, .int .u64 0, .slice none 0 0] TAn) := ⟨_, rfl⟩
        obtain ⟨gx, hgx⟩ : ∃ gx, gx = wr.heap.size := ⟨_, rfl⟩
        have r4 : RowAt w4 gx TAn [.int .u64 0, .int .u64 0, .int .u64 0, .slice none 0 0] := by rw [hw4]; exact RowAt.new #[.int .u64 0, .int .u64 0, .int .u64 0, .slice none 0 0] hgx
        have b34 : Below wr.heap.size wr w4 := by rw [hw4]; exact balloc (Below.refl _ _) _
        rw [← hw4, ← hgx]
        replace hw4 := Lib.hid hw4
        replace hgx := Lib.hid hgx
        refine list_store (l := row) infoAn r4 rfl ROW.out ONE.out rfl 5 21 rfl rfl rfl ?_
        intro w5 q5 k5
        refine wpList_nil ?_
        have b35 : Below wr.heap.size wr w5 := k5.below b34 (fun j hj => by rw [hj]; exact Nat.le_of_eq hgx.out.symm)
        have own5 : Hid (OwnR w5 w.heap.size 9 1 oa n oc (strV ((linesP A).take (k + 2)))) := OwnR.keeps (S := fun _ => False) own.out (Keeps.of_below b35) (fun _ _ h => h)
        have Z5 := Lib.hid (btrans Z.out b35)
        have c0 : w5.cell? ⟨gx, 0, none⟩ = some (.int .u64 (xn : Int)) := (q5.cell 0).trans C3.out.1
        have c1 : w5.cell? ⟨gx, 1, none⟩ = some (.int .u64 (xb : Int)) := (q5.cell 1).trans C3.out.2.1
        have c2 : w5.cell? ⟨gx, 2, none⟩ = some (.int .u64 (xi : Int)) := (q5.cell 2).trans C3.out.2.2.1
        have c3 : w5.cell? ⟨gx, 3, none⟩ = some (.slice ta tl tc) := (q5.cell 3).trans C3.out.2.2.2
        replace b35 := Lib.hid b35
        clear k5 r4 b34 q5 own Z C3 ONE ROW rng hw4
        go_upto_region 5 with (fail)
        refine wp_region_kp (by kernel_rfl) 15 [.fix (.pointer (some ⟨gx, 0, none⟩)), .fix (.int .u64 (xn : Int)), Kp.ints (bitsK xn 64), .fix (.string sA), .fix (.pointer (some ⟨gx, 1, none⟩)), .fix (.int .u64 (xb : Int)), Kp.ints (bitsK xb 64), .fix (.string sB), .fix (.string (sA ++ sB)), .fix (.pointer (some ⟨gx, 2, none⟩)), .fix (.int .u64 (xi : Int)), Kp.ints (bitsK xi 64), .fix (.string sC), .fix (.string (sA ++ sB ++ sC)), .fix (.string (sA ++ sB ++ sC))] (by kernel_rfl) (by kernel_rfl) (by kernel_rfl) ?_ ?_
        · intro i hi
          match i, hi with
          | 0, _ =>
            intro o ho ac w' hR hF hD K hK
            simp only [List.getElem?_toArray, List.getElem?_cons_zero, Option.some.injEq] at ho
            subst ho
            have e5 : ac.tmps.getD 5 undef = .pointer (some ⟨gx, 0, none⟩) := hF 5 (notDst_spec (by kernel_rfl))
            have d5 := (Array.getD_eq_getD_getElem? (xs := ac.tmps) (i := 5) (d := undef)).symm.trans e5
            clear hD hF
            go_simp
            exact hK _ _ (Below.refl _ _) rfl
          | 1, _ =>
            intro o ho ac w' hR hF hD K hK
            simp only [List.getElem?_toArray, List.getElem?_cons_zero, List.getElem?_cons_succ, Option.some.injEq] at ho
            subst ho
            have e22 : ac.tmps.getD 22 undef = .pointer (some ⟨gx, 0, none⟩) := hD 0 (dep_spec (by kernel_rfl)) 22 rfl
            have d22 := (Array.getD_eq_getD_getElem? (xs := ac.tmps) (i := 22) (d := undef)).symm.trans e22
            clear hD hF
            have q0 : w'.cell? ⟨gx, 0, none⟩ = some (.int .u64 (xn : Int)) := bcell hR c0
            go_simp
            exact hK _ _ (Below.refl _ _) rfl
          | 2, _ =>
            intro o ho ac w' hR hF hD K hK
            simp only [List.getElem?_toArray, List.getElem?_cons_zero, List.getElem?_cons_succ, Option.some.injEq] at ho
            subst ho
            have e23 : ac.tmps.getD 23 undef = .int .u64 (xn : Int) := hD 1 (dep_spec (by kernel_rfl)) 23 rfl
            have d23 := (Array.getD_eq_getD_getElem? (xs := ac.tmps) (i := 23) (d := undef)).symm.trans e23
            clear hD hF
            go_simp
            refine (PA.out w').mono ?_
            rintro e w2 ⟨pa, pc, rfl, ow2, hb2⟩
            exact hK _ _ hb2 ⟨pa, pc, rfl, NumsAt.of_owns ow2⟩
          | 3, _ =>
            intro o ho ac w' hR hF hD K hK
            simp only [List.getElem?_toArray, List.getElem?_cons_zero, List.getElem?_cons_succ, Option.some.injEq] at ho
            subst ho
            have y24 := hD 2 (dep_spec (by kernel_rfl)) 24 rfl
            obtain ⟨pa, pc, e24, pn⟩ := y24
            have d24 := (Array.getD_eq_getD_getElem? (xs := ac.tmps) (i := 24) (d := undef)).symm.trans e24
            clear hD hF
            go_simp
            refine (FA.out w' (btrans b35.out hR) pa pc pn).mono ?_
            rintro e w2 ⟨rfl, hb2⟩
            exact hK _ _ hb2 rfl
          | 4, _ =>
            intro o ho ac w' hR hF hD K hK
            simp only [List.getElem?_toArray, List.getElem?_cons_zero, List.getElem?_cons_succ, Option.some.injEq] at ho
            subst ho
            have e5 : ac.tmps.getD 5 undef = .pointer (some ⟨gx, 0, none⟩) := hF 5 (notDst_spec (by kernel_rfl))
            have d5 := (Array.getD_eq_getD_getElem? (xs := ac.tmps) (i := 5) (d := undef)).symm.trans e5
            clear hD hF
            go_simp
            exact hK _ _ (Below.refl _ _) rfl
          | 5, _ =>
            intro o ho ac w' hR hF hD K hK
            simp only [List.getElem?_toArray, List.getElem?_cons_zero, List.getElem?_cons_succ, Option.some.injEq] at ho
            subst ho
            have e26 : ac.tmps.getD 26 undef = .pointer (some ⟨gx, 1, none⟩) := hD 4 (dep_spec (by kernel_rfl)) 26 rfl
            have d26 := (Array.getD_eq_getD_getElem? (xs := ac.tmps) (i := 26) (d := undef)).symm.trans e26
            clear hD hF
            have q1 : w'.cell? ⟨gx, 1, none⟩ = some (.int .u64 (xb : Int)) := bcell hR c1
            go_simp
            exact hK _ _ (Below.refl _ _) rfl
          | 6, _ =>
            intro o ho ac w' hR hF hD K hK
            simp only [List.getElem?_toArray, List.getElem?_cons_zero, List.getElem?_cons_succ, Option.some.injEq] at ho
            subst ho
            have e25 : ac.tmps.getD 25 undef = .string sA := hD 3 (dep_spec (by kernel_rfl)) 25 rfl
            have d25 := (Array.getD_eq_getD_getElem? (xs := ac.tmps) (i := 25) (d := undef)).symm.trans e25
            have e27 : ac.tmps.getD 27 undef = .int .u64 (xb : Int) := hD 5 (dep_spec (by kernel_rfl)) 27 rfl
            have d27 := (Array.getD_eq_getD_getElem? (xs := ac.tmps) (i := 27) (d := undef)).symm.trans e27
            clear hD hF
            go_simp
            refine (PB.out w').mono ?_
            rintro e w2 ⟨pa, pc, rfl, ow2, hb2⟩
            exact hK _ _ hb2 ⟨pa, pc, rfl, NumsAt.of_owns ow2⟩
          | 7, _ =>
            intro o ho ac w' hR hF hD K hK
            simp only [List.getElem?_toArray, List.getElem?_cons_zero, List.getElem?_cons_succ, Option.some.injEq] at ho
            subst ho
            have y28 := hD 6 (dep_spec (by kernel_rfl)) 28 rfl
            obtain ⟨pa, pc, e28, pn⟩ := y28
            have d28 := (Array.getD_eq_getD_getElem? (xs := ac.tmps) (i := 28) (d := undef)).symm.trans e28
            clear hD hF
            go_simp
            refine (FB.out w' (btrans b35.out hR) pa pc pn).mono ?_
            rintro e w2 ⟨rfl, hb2⟩
            exact hK _ _ hb2 rfl
          | 8, _ =>
            intro o ho ac w' hR hF hD K hK
            simp only [List.getElem?_toArray, List.getElem?_cons_zero, List.getElem?_cons_succ, Option.some.injEq] at ho
            subst ho
            have e25 : ac.tmps.getD 25 undef = .string sA := hD 3 (dep_spec (by kernel_rfl)) 25 rfl
            have d25 := (Array.getD_eq_getD_getElem? (xs := ac.tmps) (i := 25) (d := undef)).symm.trans e25
            have e29 : ac.tmps.getD 29 undef = .string sB := hD 7 (dep_spec (by kernel_rfl)) 29 rfl
            have d29 := (Array.getD_eq_getD_getElem? (xs := ac.tmps) (i := 29) (d := undef)).symm.trans e29
            clear hD hF
            go_simp
            exact hK _ _ (Below.refl _ _) rfl
          | 9, _ =>
            intro o ho ac w' hR hF hD K hK
            simp only [List.getElem?_toArray, List.getElem?_cons_zero, List.getElem?_cons_succ, Option.some.injEq] at ho
            subst ho
            have e5 : ac.tmps.getD 5 undef = .pointer (some ⟨gx, 0, none⟩) := hF 5 (notDst_spec (by kernel_rfl))
            have d5 := (Array.getD_eq_getD_getElem? (xs := ac.tmps) (i := 5) (d := undef)).symm.trans e5
            clear hD hF
            go_simp
            exact hK _ _ (Below.refl _ _) rfl
          | 10, _ =>
            intro o ho ac w' hR hF hD K hK
            simp only [List.getElem?_toArray, List.getElem?_cons_zero, List.getElem?_cons_succ, Option.some.injEq] at ho
            subst ho
            have e31 : ac.tmps.getD 31 undef = .pointer (some ⟨gx, 2, none⟩) := hD 9 (dep_spec (by kernel_rfl)) 31 rfl
            have d31 := (Array.getD_eq_getD_getElem? (xs := ac.tmps) (i := 31) (d := undef)).symm.trans e31
            clear hD hF
            have q2 : w'.cell? ⟨gx, 2, none⟩ = some (.int .u64 (xi : Int)) := bcell hR c2
            go_simp
            exact hK _ _ (Below.refl _ _) rfl
          | 11, _ =>
            intro o ho ac w' hR hF hD K hK
            simp only [List.getElem?_toArray, List.getElem?_cons_zero, List.getElem?_cons_succ, Option.some.injEq] at ho
            subst ho
            have e29 : ac.tmps.getD 29 undef = .string sB := hD 7 (dep_spec (by kernel_rfl)) 29 rfl
            have d29 := (Array.getD_eq_getD_getElem? (xs := ac.tmps) (i := 29) (d := undef)).symm.trans e29
            have e32 : ac.tmps.getD 32 undef = .int .u64 (xi : Int) := hD 10 (dep_spec (by kernel_rfl)) 32 rfl
            have d32 := (Array.getD_eq_getD_getElem? (xs := ac.tmps) (i := 32) (d := undef)).symm.trans e32
            clear hD hF
            go_simp
            refine (PC.out w').mono ?_
            rintro e w2 ⟨pa, pc, rfl, ow2, hb2⟩
            exact hK _ _ hb2 ⟨pa, pc, rfl, NumsAt.of_owns ow2⟩
          | 12, _ =>
            intro o ho ac w' hR hF hD K hK
            simp only [List.getElem?_toArray, List.getElem?_cons_zero, List.getElem?_cons_succ, Option.some.injEq] at ho
            subst ho
            have y33 := hD 11 (dep_spec (by kernel_rfl)) 33 rfl
            obtain ⟨pa, pc, e33, pn⟩ := y33
            have d33 := (Array.getD_eq_getD_getElem? (xs := ac.tmps) (i := 33) (d := undef)).symm.trans e33
            clear hD hF
            go_simp
            refine (FC.out w' (btrans b35.out hR) pa pc pn).mono ?_
            rintro e w2 ⟨rfl, hb2⟩
            exact hK _ _ hb2 rfl
          | 13, _ =>
            intro o ho ac w' hR hF hD K hK
            simp only [List.getElem?_toArray, List.getElem?_cons_zero, List.getElem?_cons_succ, Option.some.injEq] at ho
            subst ho
            have e30 : ac.tmps.getD 30 undef = .string (sA ++ sB) := hD 8 (dep_spec (by kernel_rfl)) 30 rfl
            have d30 := (Array.getD_eq_getD_getElem? (xs := ac.tmps) (i := 30) (d := undef)).symm.trans e30
            have e34 : ac.tmps.getD 34 undef = .string sC := hD 12 (dep_spec (by kernel_rfl)) 34 rfl
            have d34 := (Array.getD_eq_getD_getElem? (xs := ac.tmps) (i := 34) (d := undef)).symm.trans e34
            clear hD hF
            go_simp
            exact hK _ _ (Below.refl _ _) rfl
          | 14, _ =>
            intro o ho ac w' hR hF hD K hK
            simp only [List.getElem?_toArray, List.getElem?_cons_zero, List.getElem?_cons_succ, Option.some.injEq] at ho
            subst ho
            have e22 : ac.tmps.getD 22 undef = .pointer (some ⟨gx, 0, none⟩) := hD 0 (dep_spec (by kernel_rfl)) 22 rfl
            have d22 := (Array.getD_eq_getD_getElem? (xs := ac.tmps) (i := 22) (d := undef)).symm.trans e22
            have e23 : ac.tmps.getD 23 undef = .int .u64 (xn : Int) := hD 1 (dep_spec (by kernel_rfl)) 23 rfl
            have d23 := (Array.getD_eq_getD_getElem? (xs := ac.tmps) (i := 23) (d := undef)).symm.trans e23
            have y24 := hD 2 (dep_spec (by kernel_rfl)) 24 rfl
            obtain ⟨pa, pc, e24, pn⟩ := y24
            have d24 := (Array.getD_eq_getD_getElem? (xs := ac.tmps) (i := 24) (d := undef)).symm.trans e24
            have e25 : ac.tmps.getD 25 undef = .string sA := hD 3 (dep_spec (by kernel_rfl)) 25 rfl
            have d25 := (Array.getD_eq_getD_getElem? (xs := ac.tmps) (i := 25) (d := undef)).symm.trans e25
            have e26 : ac.tmps.getD 26 undef = .pointer (some ⟨gx, 1, none⟩) := hD 4 (dep_spec (by kernel_rfl)) 26 rfl
            have d26 := (Array.getD_eq_getD_getElem? (xs := ac.tmps) (i := 26) (d := undef)).symm.trans e26
            have e27 : ac.tmps.getD 27 undef = .int .u64 (xb : Int) := hD 5 (dep_spec (by kernel_rfl)) 27 rfl
            have d27 := (Array.getD_eq_getD_getElem? (xs := ac.tmps) (i := 27) (d := undef)).symm.trans e27
            have y28 := hD 6 (dep_spec (by kernel_rfl)) 28 rfl
            obtain ⟨pa, pc, e28, pn⟩ := y28
            have d28 := (Array.getD_eq_getD_getElem? (xs := ac.tmps) (i := 28) (d := undef)).symm.trans e28
            have e29 : ac.tmps.getD 29 undef = .string sB := hD 7 (dep_spec (by kernel_rfl)) 29 rfl
            have d29 := (Array.getD_eq_getD_getElem? (xs := ac.tmps) (i := 29) (d := undef)).symm.trans e29
            have e30 : ac.tmps.getD 30 undef = .string (sA ++ sB) := hD 8 (dep_spec (by kernel_rfl)) 30 rfl
            have d30 := (Array.getD_eq_getD_getElem? (xs := ac.tmps) (i := 30) (d := undef)).symm.trans e30
            have e31 : ac.tmps.getD 31 undef = .pointer (some ⟨gx, 2, none⟩) := hD 9 (dep_spec (by kernel_rfl)) 31 rfl
            have d31 := (Array.getD_eq_getD_getElem? (xs := ac.tmps) (i := 31) (d := undef)).symm.trans e31
            have e32 : ac.tmps.getD 32 undef = .int .u64 (xi : Int) := hD 10 (dep_spec (by kernel_rfl)) 32 rfl
            have d32 := (Array.getD_eq_getD_getElem? (xs := ac.tmps) (i := 32) (d := undef)).symm.trans e32
            have y33 := hD 11 (dep_spec (by kernel_rfl)) 33 rfl
            obtain ⟨pa, pc, e33, pn⟩ := y33
            have d33 := (Array.getD_eq_getD_getElem? (xs := ac.tmps) (i := 33) (d := undef)).symm.trans e33
            have e34 : ac.tmps.getD 34 undef = .string sC := hD 12 (dep_spec (by kernel_rfl)) 34 rfl
            have d34 := (Array.getD_eq_getD_getElem? (xs := ac.tmps) (i := 34) (d := undef)).symm.trans e34
            have e35 : ac.tmps.getD 35 undef = .string (sA ++ sB ++ sC) := hD 13 (dep_spec (by kernel_rfl)) 35 rfl
            have d35 := (Array.getD_eq_getD_getElem? (xs := ac.tmps) (i := 35) (d := undef)).symm.trans e35
            clear hD hF
            go_simp
            exact hK _ _ (Below.refl _ _) rfl
          | k + 15, hk => omega
        · rintro ⟨tm, df⟩ w6 hdf hsz hF hR9 hV
          obtain rfl : df = [] := hdf
          obtain ⟨q, rfl⟩ := frame46 tm hsz
          have k6 : q 6 = .string (sA ++ sB ++ sC) := hV 14 6 (by decide) rfl
          simp only [k6]
          clear k6
          have k0 := hF 0 (notDst_spec (by kernel_rfl))
          have k1 := hF 1 (notDst_spec (by kernel_rfl))
          have k2 := hF 2 (notDst_spec (by kernel_rfl))
          have k3 := hF 3 (notDst_spec (by kernel_rfl))
          have k4 := hF 4 (notDst_spec (by kernel_rfl))
          have k5 := hF 5 (notDst_spec (by kernel_rfl))
          have k7 := hF 7 (notDst_spec (by kernel_rfl))
          have k8 := hF 8 (notDst_spec (by kernel_rfl))
          have k9 := hF 9 (notDst_spec (by kernel_rfl))
          have k10 := hF 10 (notDst_spec (by kernel_rfl))
          have k11 := hF 11 (notDst_spec (by kernel_rfl))
          have k12 := hF 12 (notDst_spec (by kernel_rfl))
          have k13 := hF 13 (notDst_spec (by kernel_rfl))
          have k14 := hF 14 (notDst_spec (by kernel_rfl))
          have k15 := hF 15 (notDst_spec (by kernel_rfl))
          have k16 := hF 16 (notDst_spec (by kernel_rfl))
          have k17 := hF 17 (notDst_spec (by kernel_rfl))
          have k18 := hF 18 (notDst_spec (by kernel_rfl))
          have k19 := hF 19 (notDst_spec (by kernel_rfl))
          have k20 := hF 20 (notDst_spec (by kernel_rfl))
          have k21 := hF 21 (notDst_spec (by kernel_rfl))
          have k36 := hF 36 (notDst_spec (by kernel_rfl))
          have k37 := hF 37 (notDst_spec (by kernel_rfl))
          have k38 := hF 38 (notDst_spec (by kernel_rfl))
          have k39 := hF 39 (notDst_spec (by kernel_rfl))
          have k40 := hF 40 (notDst_spec (by kernel_rfl))
          have k41 := hF 41 (notDst_spec (by kernel_rfl))
          have k42 := hF 42 (notDst_spec (by kernel_rfl))
          have k43 := hF 43 (notDst_spec (by kernel_rfl))
          have k44 := hF 44 (notDst_spec (by kernel_rfl))
          have k45 := hF 45 (notDst_spec (by kernel_rfl))
          simp only [Array.getD_eq_getD_getElem?, List.getElem?_toArray, List.getElem?_cons_succ, List.getElem?_cons_zero, Option.getD_some] at k0 k1 k2 k3 k4 k5 k7 k8 k9 k10 k11 k12 k13 k14 k15 k16 k17 k18 k19 k20 k21 k36 k37 k38 k39 k40 k41 k42 k43 k44 k45
          simp only [k0, k1, k2, k3, k4, k5, k7, k8, k9, k10, k11, k12, k13, k14, k15, k16, k17, k18, k19, k20, k21, k36, k37, k38, k39, k40, k41, k42, k43, k44, k45]
          clear k0 k1 k2 k3 k4 k5 k7 k8 k9 k10 k11 k12 k13 k14 k15 k16 k17 k18 k19 k20 k21 k36 k37 k38 k39 k40 k41 k42 k43 k44 k45
          clear hF hV hsz
          change wpAny _ _ _ _ 0 _ _ _
          refine ⟨by kernel_rfl, ?_⟩
          have c3 : w6.cell? ⟨gx, 3, none⟩ = some (.slice ta tl tc) := bcell hR9 c3
          have D6 := Lib.hid (FD.out w6 (btrans b35.out hR9))
          have own6 : OwnR w6 w.heap.size 9 1 oa n oc (strV ((linesP A).take (k + 2))) := OwnR.keeps (S := fun _ => False) own5.out (Keeps.of_below hR9) (fun _ _ h => h)
          have Z6 := btrans Z5.out hR9
          clear hR9 FD FA FB FC PA PB PC c0 c1 c2 own5 Z5 b35
          go_upto_region 6 with (fail)
          refine wp_region_list ?_
          refine wpList_plain rfl (fun K hK => ?_)
          go_simp
          refine hK _ _ ?_
          clear hK K
          refine wpList_plain rfl (fun K hK => ?_)
          go_simp
          refine hK _ _ ?_
          clear hK K
          refine wpList_plain rfl (fun K hK => ?_)
          go_simp
          refine hK _ _ ?_
          clear hK K
          refine wpList_plain rfl (fun K hK => ?_)
          go_simp
          refine hK _ _ ?_
          clear hK K
          refine wpList_plain rfl (fun K hK => ?_)
          go_simp
          refine D6.out.mono ?_
          rintro e w7 ⟨rfl, hb7⟩
          refine hK _ _ ?_
          clear hK K D6
          have own7 : OwnR w7 w.heap.size 9 1 oa n oc (strV ((linesP A).take (k + 2))) := OwnR.keeps (S := fun _ => False) own6 (Keeps.of_below hb7) (fun _ _ h => h)
          have Z7 := btrans Z6 hb7
          clear own6 Z6 hb7 c3
          refine wpList_plain rfl (fun K hK => ?_)
          go_simp
          refine hK _ _ ?_
          clear hK K
          refine wpList_plain rfl (fun K hK => ?_)
          go_simp
          refine hK _ _ ?_
          clear hK K
          obtain ⟨w8, hw8⟩ : ∃ w8, w8 = w7.alloc (.cells #[.string (sA ++ sB ++ sC ++ sD)] 9) := ⟨_, rfl⟩
          obtain ⟨g8, hg8⟩ : ∃ g8, g8 = w7.heap.size := ⟨_, rfl⟩
          have r8 : RowAt w8 g8 9 [.string (sA ++ sB ++ sC ++ sD)] := by rw [hw8]; exact RowAt.new #[.string (sA ++ sB ++ sC ++ sD)] hg8
          have b78 : Below w7.heap.size w7 w8 := by rw [hw8]; exact balloc (Below.refl _ _) _
          rw [← hw8, ← hg8]
          have own8 : OwnR w8 w.heap.size 9 1 oa n oc (strV ((linesP A).take (k + 2))) := OwnR.keeps (S := fun _ => False) own7 (Keeps.of_below b78) (fun _ _ h => h)
          have Z8 := Lib.hid (btrans Z7 b78)
          replace hw8 := Lib.hid hw8
          replace hg8 := Lib.hid hg8
          refine wp_appR rfl (.tmp 36) (.tmp 42) 41 9 (.string ⟨#[]⟩) 1 16 rfl Tryd.underlying41 infoStr3 rfl (by decide) w.heap.size oa n oc (strV ((linesP A).take (k + 2))) rfl own8 g8 1 [.string (sA ++ sB ++ sC ++ sD)] rfl rfl (fun j u hj => by
            have := r8.cell j
            rw [hj] at this
            rw [add_off, Nat.zero_add]
            exact this) (fun v hv => by rw [List.mem_singleton] at hv; subst hv; rfl) (by unfold maxLen; omega) (by omega) Z8.out.size ?_
          intro oa9 oc9 w9 own9 hg9 _
          have z9 := Lib.hid (bgrown Z8.out hg9 (fun q hq => (OwnR.lt own8 hq).1))
          have own10 : Hid (OwnR w9 w.heap.size 9 1 oa9 (n + 1) oc9 (strV ((linesP A).take (k + 1 + 2)))) := by
            show OwnR _ _ _ _ _ _ _ _
            rw [show k + 1 + 2 = k + 2 + 1 from rfl, hsn.out]
            exact own9
          clear r8 b78 own8 Z8 hg9 own9 own7 Z7 hsn
          refine wpList_plain rfl (fun K hK => ?_)
          go_simp
          refine hK _ _ ?_
          clear hK K
          refine wpList_nil ?_
          go_wp2
          go_roundw
          case rel => exact ⟨k + 1, n + 1, oa9, oc9, rfl, by go_num, hn3, by omega, own10, z9⟩
          case measure => simp [intOf]; omega
      · have hlI : ¬ (k : Int) < (nn : Int) := by omega
        have he : k = nn := by omega
        subst he
        have hn3 := hn2.out
        subst hn3
        have hf := Lib.hid (FIN.out oa oc wr own.out Z.out)
        clear FIN own Z LSN NOK PLA NDS
        go_wp2
        go_ret
        exact hf.out
end Go.Proofs.YtjacphcnanopjaaDoor
