/- What a field says of a node, walked: the program's mark. Conditions: what the listed variables hold; short texts. -/
import Derived.Test.YtjacphcnanopjaaDoorAtS
namespace Go.Proofs.YtjacphcnanopjaaDoor
open Go.Shelf Go.RowKit
set_option linter.unusedVariables false
set_option linter.unusedSimpArgs false

theorem frame56 (arr : Array Value) (h : arr.size = 56) : ∃ q : Nat → Value, arr = #[q 0, q 1, q 2, q 3, q 4, q 5, q 6, q 7, q 8, q 9, q 10, q 11, q 12, q 13, q 14, q 15, q 16, q 17, q 18, q 19, q 20, q 21, q 22, q 23, q 24, q 25, q 26, q 27, q 28, q 29, q 30, q 31, q 32, q 33, q 34, q 35, q 36, q 37, q 38, q 39, q 40, q 41, q 42, q 43, q 44, q 45, q 46, q 47, q 48, q 49, q 50, q 51, q 52, q 53, q 54, q 55] := by
  refine ⟨fun i => arr.toList.getD i undef, ?_⟩
  have h1 := list_getN (l := arr.toList) (n := 56) (by simpa using h)
  apply Array.ext'
  exact h1

/-- what mark gives -/
def MarkV (w : World) (gx : Nat) (x : AN) (v3 : Value) (o : Option AN) (e : Ending) (w' : World) : Prop := (match o with
  | some y => e = .returned (.bool true) ∧ RowAt w' gx TAn [.int .u64 y.need, .int .u64 y.ban, .int .u64 y.inn, v3]
  | none => e = .returned (.bool false) ∧ RowAt w' gx TAn [.int .u64 x.need, .int .u64 x.ban, .int .u64 x.inn, v3]) ∧ Keeps w w' (fun j => j = gx)
theorem shl_or (u k : Nat) (hu : u64ok u) (hk : k ≤ 63) : bits .or .u64 (u : Int) (2 ^ k) = ((u ||| 1 <<< k : Nat) : Int) := by
  have e : ((2 : Int) ^ k) = ((2 ^ k : Nat) : Int) := by rw [Int.natCast_pow]; rfl
  have hlt : 2 ^ k < 18446744073709551616 := Nat.lt_of_le_of_lt (Nat.pow_le_pow_right (by decide) hk) (by decide)
  rw [e, u64_or_nat _ _ hu hlt, Nat.one_shiftLeft]
theorem shl_wrap (k : Nat) (hk : k ≤ 63) : IntKind.u64.wrap ((2 : Int) ^ k) = 2 ^ k := by
  have e : ((2 : Int) ^ k) = ((2 ^ k : Nat) : Int) := by rw [Int.natCast_pow]; rfl
  have hlt : 2 ^ k < 18446744073709551616 := Nat.lt_of_le_of_lt (Nat.pow_le_pow_right (by decide) hk) (by decide)
  rw [e]
  have h0 : (0 : Int) ≤ ((2 ^ k : Nat) : Int) := Int.natCast_nonneg _
  have h1 : ((2 ^ k : Nat) : Int) < ((18446744073709551616 : Nat) : Int) := Int.ofNat_lt.2 hlt
  generalize ((2 ^ k : Nat) : Int) = z at h0 h1
  simp [IntKind.wrap, IntKind.bits, IntKind.signed]
  omega
theorem take_eta {t : ByteArray} {l : List UInt8} (h : t.data.toList = l) : t = ⟨l.toArray⟩ := ((str_eq _ _).2 h.symm).symm
theorem drop_str (s : ByteArray) (a : Nat) : (s.extract a s.size).data.toList = s.data.toList.drop a := by
  rw [Lib.extract_to_end]
set_option maxRecDepth 8000 in
set_option maxHeartbeats 4000000 in
theorem mark_any (w : World) (hd : Door w) (gx : Nat) (x : AN) (v3 : Value) (hx : u64ok x.need ∧ u64ok x.ban ∧ u64ok x.inn) (q : RowAt w gx TAn [.int .u64 x.need, .int .u64 x.ban, .int .u64 x.inn, v3]) (s : ByteArray) (hs : s.size ≤ 1000000) :
    Calls Tryd.prog 47 #[.pointer (some ⟨gx, 0, none⟩), .string s] w fun e w' => MarkV w gx x v3 (markP x s.data.toList) e w' := by
  obtain ⟨o, ho⟩ : ∃ o, o = markP x s.data.toList := ⟨_, rfl⟩
  rw [← ho]
  cases hl : s.data.toList with
  | nil =>
    rw [hl] at ho
    have hf := Lib.hid (show MarkV w gx x v3 none (.returned (.bool false)) w from ⟨⟨rfl, q⟩, Keeps.refl _ _⟩)
    have he : s = ⟨#[]⟩ := take_eta hl
    subst he
    obtain rfl : o = none := ho
    clear hd hx q hs hl
    go_enter Tryd.func47, Tryd.ntmps47
    go_wp2
    go_ret
    exact hf.out
  | cons c r =>
    rw [hl] at ho
    have hsz : s.size = r.length + 1 := by rw [size_data, hl]; rfl
    obtain ⟨q1, hq1⟩ : ∃ q : ByteArray, q = s.extract 1 s.size := ⟨_, rfl⟩
    have hqd : q1.data.toList = r := by rw [hq1, drop_str, hl]; rfl
    have C := number1_any w hd q1 (by rw [size_data, hqd]; omega)
    rw [hqd] at C
    have NB := numN_bool r
    have hne : ¬ s = ⟨#[]⟩ := fun e => by rw [e] at hl; cases hl
    have hnB := str_no hne
    have hnL : ¬ s.toList = [] := fun e => by rw [ByteArray.toList_eq, hl] at e; cases e
    have hnE : s.toList.isEmpty = false := by
      cases h : s.toList with
      | nil => exact absurd h hnL
      | cons a b => rfl
    have h0 : s[0]'(by omega) = c := by
      rw [data_at s 0 (by omega) (by rw [hl]; exact Nat.succ_pos _)]
      simp [hl]
    have hsI : (1 : Int) ≤ (s.size : Int) := by omega
    have hs0 : 0 < s.size := by omega
    have NO : Hid (∀ v, Below w.heap.size w v → MarkV w gx x v3 none (.returned (.bool false)) v) := fun v hb => ⟨⟨rfl, q.below hb⟩, Keeps.of_below hb⟩
    generalize numP r = nb at C NB
    obtain ⟨n, bb⟩ := nb
    dsimp only at C NB
    rcases NB with ⟨hn, hb⟩ | ⟨hn, hb⟩
    · rw [hb] at C
      obtain rfl : o = none := by rw [ho]; unfold markP; dsimp only; rw [hn]
      replace C := Lib.hid C
      clear hb hl hqd hd hx q hs hne h0 hn hsz hnB hnL ho
      go_enter Tryd.func47, Tryd.ntmps47
      go_wp2_with fail
      rw [← hq1]
      refine C.out.mono ?_
      rintro e w1 ⟨rfl, hb1⟩
      have hf := Lib.hid (NO.out w1 hb1)
      clear hb1 NO C
      go_wp2
      go_ret
      exact hf.out
    · have hb2 := hb
      rw [Bool.and_eq_true, decide_eq_true_iff] at hb2
      obtain ⟨rfl, hn0⟩ := hb2
      rw [hb] at C
      obtain ⟨k, rfl⟩ : ∃ k : Nat, n = (k : Int) := ⟨n.toNat, by omega⟩
      replace C := Lib.hid C
      by_cases hk : 63 < k
      · have hkI : (63 : Int) < (k : Int) := by omega
        have hkB : decide (63 < k) = true := decide_eq_true hk
        obtain rfl : o = none := by rw [ho]; unfold markP; dsimp only; rw [hn]; dsimp only; rw [if_pos hkI]
        clear hb hl hqd hd hx q hs hne h0 hn hsz hnB hnL ho hn0 hk
        go_enter Tryd.func47, Tryd.ntmps47
        go_wp2_with fail
        rw [← hq1]
        refine C.out.mono ?_
        rintro e w1 ⟨rfl, hb1⟩
        have hf := Lib.hid (NO.out w1 hb1)
        clear hb1 NO C
        go_wp2
        go_ret
        exact hf.out
      · have hkI : ¬ (63 : Int) < (k : Int) := by omega
        have hkB : decide (63 < k) = false := decide_eq_false hk
        have hk2 : (k : Int) ≤ 63 := by omega
        have ho2 : o = if c = 43 then some { x with need := x.need ||| 1 <<< k } else if c = 45 then some { x with ban := x.ban ||| 1 <<< k } else if c = 64 then some { x with inn := x.inn ||| 1 <<< k } else none := by
          rw [ho]; unfold markP; dsimp only; rw [hn]; dsimp only; rw [if_neg hkI]; rfl
        have QS : Hid (∀ v, Below w.heap.size w v → RowAt v gx TAn [.int .u64 x.need, .int .u64 x.ban, .int .u64 x.inn, v3]) := fun v hb => q.below hb
        have KW := shl_wrap k (by omega)
        have KO : Hid (∀ u, u64ok u → bits .or .u64 (u : Int) (2 ^ k) = ((u ||| 1 <<< k : Nat) : Int)) := fun u hu => shl_or u k hu (by omega)
        by_cases c43 : c = 43
        · have e1 : ((s[0].toNat : Nat) : Int) = 43 := by rw [h0, c43]; rfl
          rw [if_pos c43] at ho2
          subst ho2
          have f1 : ((s[0].toNat : Int) == 43) = true := by rw [e1]; rfl
          have f2 : (s[0].toNat == 43) = true := by rw [h0, c43]; rfl
          have BO := KO.out x.need hx.1
          clear hb hl hqd hd hx q hs hne h0 hn hsz hnB hnL ho hn0 hk e1 c43 KO
          go_enter Tryd.func47, Tryd.ntmps47
          go_wp2_with fail
          rw [← hq1]
          refine C.out.mono ?_
          rintro e w1 ⟨rfl, hb1⟩
          have q1' := QS.out w1 hb1
          have k01 : Keeps w w1 (fun j => j = gx) := Keeps.of_below hb1
          have cf : w1.cell? ⟨gx, 0, none⟩ = some (.int .u64 (x.need : Int)) := q1'.cell 0
          clear hb1 NO C QS
          go_upto_region 9 with (fail)
          refine wp_region_kp (by kernel_rfl) 9 [.fix (.pointer (some ⟨gx, 0, none⟩)), .fix (.pointer (some ⟨gx, 0, none⟩)), .fix (.pointer (some ⟨gx, 0, none⟩)), .fix (.int .u64 (x.need : Int)), .fix (.int .i64 (k : Int)), .fix (.int .u64 (2 ^ k)), .fix (.int .u64 ((x.need ||| 1 <<< k : Nat) : Int)), .fix (.pointer (some ⟨gx, 0, none⟩)), .fix (.pointer (some ⟨gx, 0, none⟩))] (by kernel_rfl) (by kernel_rfl) (by kernel_rfl) ?_ ?_
          · intro i hi
            match i, hi with
            | 0, _ =>
              intro o ho ac w' hR hF hD K hK
              simp only [List.getElem?_toArray, List.getElem?_cons_zero, Option.some.injEq] at ho
              subst ho
              have e0 : ac.tmps.getD 0 undef = .pointer (some ⟨gx, 0, none⟩) := hF 0 (notDst_spec (by kernel_rfl))
              have d0 := (Array.getD_eq_getD_getElem? (xs := ac.tmps) (i := 0) (d := undef)).symm.trans e0
              clear hD hF
              go_simp
              exact hK _ _ (Below.refl _ _) rfl
            | 1, _ =>
              intro o ho ac w' hR hF hD K hK
              simp only [List.getElem?_toArray, List.getElem?_cons_zero, List.getElem?_cons_succ, Option.some.injEq] at ho
              subst ho
              have e25 : ac.tmps.getD 25 undef = .pointer (some ⟨gx, 0, none⟩) := hD 0 (dep_spec (by kernel_rfl)) 25 rfl
              have d25 := (Array.getD_eq_getD_getElem? (xs := ac.tmps) (i := 25) (d := undef)).symm.trans e25
              clear hD hF
              go_simp
              exact hK _ _ (Below.refl _ _) rfl
            | 2, _ =>
              intro o ho ac w' hR hF hD K hK
              simp only [List.getElem?_toArray, List.getElem?_cons_zero, List.getElem?_cons_succ, Option.some.injEq] at ho
              subst ho
              have e26 : ac.tmps.getD 26 undef = .pointer (some ⟨gx, 0, none⟩) := hD 1 (dep_spec (by kernel_rfl)) 26 rfl
              have d26 := (Array.getD_eq_getD_getElem? (xs := ac.tmps) (i := 26) (d := undef)).symm.trans e26
              clear hD hF
              go_simp
              exact hK _ _ (Below.refl _ _) rfl
            | 3, _ =>
              intro o ho ac w' hR hF hD K hK
              simp only [List.getElem?_toArray, List.getElem?_cons_zero, List.getElem?_cons_succ, Option.some.injEq] at ho
              subst ho
              have e27 : ac.tmps.getD 27 undef = .pointer (some ⟨gx, 0, none⟩) := hD 2 (dep_spec (by kernel_rfl)) 27 rfl
              have d27 := (Array.getD_eq_getD_getElem? (xs := ac.tmps) (i := 27) (d := undef)).symm.trans e27
              clear hD hF
              have q0 : w'.cell? ⟨gx, 0, none⟩ = some (.int .u64 (x.need : Int)) := bcell hR cf
              go_simp
              exact hK _ _ (Below.refl _ _) rfl
            | 4, _ =>
              intro o ho ac w' hR hF hD K hK
              simp only [List.getElem?_toArray, List.getElem?_cons_zero, List.getElem?_cons_succ, Option.some.injEq] at ho
              subst ho
              have e5 : ac.tmps.getD 5 undef = .int .i64 (k : Int) := hF 5 (notDst_spec (by kernel_rfl))
              have d5 := (Array.getD_eq_getD_getElem? (xs := ac.tmps) (i := 5) (d := undef)).symm.trans e5
              clear hD hF
              go_simp
              exact hK _ _ (Below.refl _ _) rfl
            | 5, _ =>
              intro o ho ac w' hR hF hD K hK
              simp only [List.getElem?_toArray, List.getElem?_cons_zero, List.getElem?_cons_succ, Option.some.injEq] at ho
              subst ho
              have e29 : ac.tmps.getD 29 undef = .int .i64 (k : Int) := hD 4 (dep_spec (by kernel_rfl)) 29 rfl
              have d29 := (Array.getD_eq_getD_getElem? (xs := ac.tmps) (i := 29) (d := undef)).symm.trans e29
              clear hD hF
              go_simp
              exact hK _ _ (Below.refl _ _) rfl
            | 6, _ =>
              intro o ho ac w' hR hF hD K hK
              simp only [List.getElem?_toArray, List.getElem?_cons_zero, List.getElem?_cons_succ, Option.some.injEq] at ho
              subst ho
              have e28 : ac.tmps.getD 28 undef = .int .u64 (x.need : Int) := hD 3 (dep_spec (by kernel_rfl)) 28 rfl
              have d28 := (Array.getD_eq_getD_getElem? (xs := ac.tmps) (i := 28) (d := undef)).symm.trans e28
              have e30 : ac.tmps.getD 30 undef = .int .u64 (2 ^ k) := hD 5 (dep_spec (by kernel_rfl)) 30 rfl
              have d30 := (Array.getD_eq_getD_getElem? (xs := ac.tmps) (i := 30) (d := undef)).symm.trans e30
              clear hD hF
              go_simp
              exact hK _ _ (Below.refl _ _) rfl
            | 7, _ =>
              intro o ho ac w' hR hF hD K hK
              simp only [List.getElem?_toArray, List.getElem?_cons_zero, List.getElem?_cons_succ, Option.some.injEq] at ho
              subst ho
              have e25 : ac.tmps.getD 25 undef = .pointer (some ⟨gx, 0, none⟩) := hD 0 (dep_spec (by kernel_rfl)) 25 rfl
              have d25 := (Array.getD_eq_getD_getElem? (xs := ac.tmps) (i := 25) (d := undef)).symm.trans e25
              have e26 : ac.tmps.getD 26 undef = .pointer (some ⟨gx, 0, none⟩) := hD 1 (dep_spec (by kernel_rfl)) 26 rfl
              have d26 := (Array.getD_eq_getD_getElem? (xs := ac.tmps) (i := 26) (d := undef)).symm.trans e26
              have e27 : ac.tmps.getD 27 undef = .pointer (some ⟨gx, 0, none⟩) := hD 2 (dep_spec (by kernel_rfl)) 27 rfl
              have d27 := (Array.getD_eq_getD_getElem? (xs := ac.tmps) (i := 27) (d := undef)).symm.trans e27
              have e28 : ac.tmps.getD 28 undef = .int .u64 (x.need : Int) := hD 3 (dep_spec (by kernel_rfl)) 28 rfl
              have d28 := (Array.getD_eq_getD_getElem? (xs := ac.tmps) (i := 28) (d := undef)).symm.trans e28
              have e29 : ac.tmps.getD 29 undef = .int .i64 (k : Int) := hD 4 (dep_spec (by kernel_rfl)) 29 rfl
              have d29 := (Array.getD_eq_getD_getElem? (xs := ac.tmps) (i := 29) (d := undef)).symm.trans e29
              have e30 : ac.tmps.getD 30 undef = .int .u64 (2 ^ k) := hD 5 (dep_spec (by kernel_rfl)) 30 rfl
              have d30 := (Array.getD_eq_getD_getElem? (xs := ac.tmps) (i := 30) (d := undef)).symm.trans e30
              have e31 : ac.tmps.getD 31 undef = .int .u64 ((x.need ||| 1 <<< k : Nat) : Int) := hD 6 (dep_spec (by kernel_rfl)) 31 rfl
              have d31 := (Array.getD_eq_getD_getElem? (xs := ac.tmps) (i := 31) (d := undef)).symm.trans e31
              clear hD hF
              go_simp
              exact hK _ _ (Below.refl _ _) rfl
            | 8, _ =>
              intro o ho ac w' hR hF hD K hK
              simp only [List.getElem?_toArray, List.getElem?_cons_zero, List.getElem?_cons_succ, Option.some.injEq] at ho
              subst ho
              have e25 : ac.tmps.getD 25 undef = .pointer (some ⟨gx, 0, none⟩) := hD 0 (dep_spec (by kernel_rfl)) 25 rfl
              have d25 := (Array.getD_eq_getD_getElem? (xs := ac.tmps) (i := 25) (d := undef)).symm.trans e25
              have e26 : ac.tmps.getD 26 undef = .pointer (some ⟨gx, 0, none⟩) := hD 1 (dep_spec (by kernel_rfl)) 26 rfl
              have d26 := (Array.getD_eq_getD_getElem? (xs := ac.tmps) (i := 26) (d := undef)).symm.trans e26
              have e27 : ac.tmps.getD 27 undef = .pointer (some ⟨gx, 0, none⟩) := hD 2 (dep_spec (by kernel_rfl)) 27 rfl
              have d27 := (Array.getD_eq_getD_getElem? (xs := ac.tmps) (i := 27) (d := undef)).symm.trans e27
              have e28 : ac.tmps.getD 28 undef = .int .u64 (x.need : Int) := hD 3 (dep_spec (by kernel_rfl)) 28 rfl
              have d28 := (Array.getD_eq_getD_getElem? (xs := ac.tmps) (i := 28) (d := undef)).symm.trans e28
              have e29 : ac.tmps.getD 29 undef = .int .i64 (k : Int) := hD 4 (dep_spec (by kernel_rfl)) 29 rfl
              have d29 := (Array.getD_eq_getD_getElem? (xs := ac.tmps) (i := 29) (d := undef)).symm.trans e29
              have e30 : ac.tmps.getD 30 undef = .int .u64 (2 ^ k) := hD 5 (dep_spec (by kernel_rfl)) 30 rfl
              have d30 := (Array.getD_eq_getD_getElem? (xs := ac.tmps) (i := 30) (d := undef)).symm.trans e30
              have e31 : ac.tmps.getD 31 undef = .int .u64 ((x.need ||| 1 <<< k : Nat) : Int) := hD 6 (dep_spec (by kernel_rfl)) 31 rfl
              have d31 := (Array.getD_eq_getD_getElem? (xs := ac.tmps) (i := 31) (d := undef)).symm.trans e31
              have e32 : ac.tmps.getD 32 undef = .pointer (some ⟨gx, 0, none⟩) := hD 7 (dep_spec (by kernel_rfl)) 32 rfl
              have d32 := (Array.getD_eq_getD_getElem? (xs := ac.tmps) (i := 32) (d := undef)).symm.trans e32
              clear hD hF
              go_simp
              exact hK _ _ (Below.refl _ _) rfl
            | k + 9, hk => omega
          · rintro ⟨tm, df⟩ w5 hdf hsz hF hR9 hV
            obtain rfl : df = [] := hdf
            obtain ⟨q, rfl⟩ := frame56 tm hsz
            have k31 : q 31 = .int .u64 ((x.need ||| 1 <<< k : Nat) : Int) := hV 6 31 (by decide) rfl
            have k33 : q 33 = .pointer (some ⟨gx, 0, none⟩) := hV 8 33 (by decide) rfl
            simp only [k31, k33]
            clear k31 k33
            have k0 := hF 0 (notDst_spec (by kernel_rfl))
            have k1 := hF 1 (notDst_spec (by kernel_rfl))
            have k2 := hF 2 (notDst_spec (by kernel_rfl))
            have k3 := hF 3 (notDst_spec (by kernel_rfl))
            have k4 := hF 4 (notDst_spec (by kernel_rfl))
            have k5 := hF 5 (notDst_spec (by kernel_rfl))
            have k6 := hF 6 (notDst_spec (by kernel_rfl))
            have k7 := hF 7 (notDst_spec (by kernel_rfl))
            have k8 := hF 8 (notDst_spec (by kernel_rfl))
            have k9 := hF 9 (notDst_spec (by kernel_rfl))
            have k10 := hF 10 (notDst_spec (by kernel_rfl))
            have k11 := hF 11 (notDst_spec (by kernel_rfl))
            have k12 := hF 12 (notDst_spec (by kernel_rfl))
            have k13 := hF 13 (notDst_spec (by kernel_rfl))
            have k14 := hF 14 (notDst_spec (by kernel_rfl))
            have k15 := hF 15 (notDst_spec (by kernel_rfl))
            have k16 := hF 16 (notDst_spec (by kernel_rfl))
            have k17 := hF 17 (notDst_spec (by kernel_rfl))
            have k18 := hF 18 (notDst_spec (by kernel_rfl))
            have k19 := hF 19 (notDst_spec (by kernel_rfl))
            have k20 := hF 20 (notDst_spec (by kernel_rfl))
            have k21 := hF 21 (notDst_spec (by kernel_rfl))
            have k22 := hF 22 (notDst_spec (by kernel_rfl))
            have k23 := hF 23 (notDst_spec (by kernel_rfl))
            have k24 := hF 24 (notDst_spec (by kernel_rfl))
            have k34 := hF 34 (notDst_spec (by kernel_rfl))
            have k35 := hF 35 (notDst_spec (by kernel_rfl))
            have k36 := hF 36 (notDst_spec (by kernel_rfl))
            have k37 := hF 37 (notDst_spec (by kernel_rfl))
            have k38 := hF 38 (notDst_spec (by kernel_rfl))
            have k39 := hF 39 (notDst_spec (by kernel_rfl))
            have k40 := hF 40 (notDst_spec (by kernel_rfl))
            have k41 := hF 41 (notDst_spec (by kernel_rfl))
            have k42 := hF 42 (notDst_spec (by kernel_rfl))
            have k43 := hF 43 (notDst_spec (by kernel_rfl))
            have k44 := hF 44 (notDst_spec (by kernel_rfl))
            have k45 := hF 45 (notDst_spec (by kernel_rfl))
            have k46 := hF 46 (notDst_spec (by kernel_rfl))
            have k47 := hF 47 (notDst_spec (by kernel_rfl))
            have k48 := hF 48 (notDst_spec (by kernel_rfl))
            have k49 := hF 49 (notDst_spec (by kernel_rfl))
            have k50 := hF 50 (notDst_spec (by kernel_rfl))
            have k51 := hF 51 (notDst_spec (by kernel_rfl))
            have k52 := hF 52 (notDst_spec (by kernel_rfl))
            have k53 := hF 53 (notDst_spec (by kernel_rfl))
            have k54 := hF 54 (notDst_spec (by kernel_rfl))
            have k55 := hF 55 (notDst_spec (by kernel_rfl))
            simp only [Array.getD_eq_getD_getElem?, List.getElem?_toArray, List.getElem?_cons_succ, List.getElem?_cons_zero, Option.getD_some] at k0 k1 k2 k3 k4 k5 k6 k7 k8 k9 k10 k11 k12 k13 k14 k15 k16 k17 k18 k19 k20 k21 k22 k23 k24 k34 k35 k36 k37 k38 k39 k40 k41 k42 k43 k44 k45 k46 k47 k48 k49 k50 k51 k52 k53 k54 k55
            simp only [k0, k1, k2, k3, k4, k5, k6, k7, k8, k9, k10, k11, k12, k13, k14, k15, k16, k17, k18, k19, k20, k21, k22, k23, k24, k34, k35, k36, k37, k38, k39, k40, k41, k42, k43, k44, k45, k46, k47, k48, k49, k50, k51, k52, k53, k54, k55]
            clear k0 k1 k2 k3 k4 k5 k6 k7 k8 k9 k10 k11 k12 k13 k14 k15 k16 k17 k18 k19 k20 k21 k22 k23 k24 k34 k35 k36 k37 k38 k39 k40 k41 k42 k43 k44 k45 k46 k47 k48 k49 k50 k51 k52 k53 k54 k55
            clear hF hV hsz
            change wpAny _ _ _ _ 1 _ _ _
            refine wpAny_ready (rs := [9]) (by kernel_rfl) (by simp) ?_
            refine AllReady.cons (i := 9) rfl (fun K hK => ?_) AllReady.nil
            have q5 := q1'.below hR9
            have cf5 : w5.cell? ⟨gx, 0, none⟩ = some (.int .u64 (x.need : Int)) := q5.cell 0
            have ff5 := q5.free 0
            go_simp
            refine hK _ _ ?_
            clear hK K
            refine ⟨by kernel_rfl, ?_⟩
            have q6 := q5.set 0 (.int .u64 ((x.need ||| 1 <<< k : Nat) : Int))
            have k6 : Keeps w5 (w5.setCell ⟨gx, 0, none⟩ (.int .u64 ((x.need ||| 1 <<< k : Nat) : Int))) (fun j => j = gx) := Keeps.set _ _ _ _ rfl
            generalize w5.setCell ⟨gx, 0, none⟩ (.int .u64 ((x.need ||| 1 <<< k : Nat) : Int)) = w6 at q6 k6 ⊢
            have hf : Hid (MarkV w gx x v3 (some { x with need := x.need ||| 1 <<< k }) (.returned (.bool true)) w6) := ⟨⟨rfl, q6⟩, (k01.trans (Keeps.of_below hR9) (fun j _ e => e)).trans k6 (fun j _ e => e)⟩
            clear q6 k6 q5 cf5 ff5 hR9 cf q1' k01 BO KW
            go_wp2
            go_ret
            exact hf.out
        · by_cases c45 : c = 45
          · have e1 : ((s[0].toNat : Nat) : Int) = 45 := by rw [h0, c45]; rfl
            rw [if_neg c43, if_pos c45] at ho2
            subst ho2
            have f0 : ((s[0].toNat : Int) == 43) = false := by rw [e1]; rfl
            have f0' : (s[0].toNat == 43) = false := by rw [h0, c45]; rfl
            have f1 : ((s[0].toNat : Int) == 45) = true := by rw [e1]; rfl
            have f2 : (s[0].toNat == 45) = true := by rw [h0, c45]; rfl
            have BO := KO.out x.ban hx.2.1
            clear hb hl hqd hd hx q hs hne h0 hn hsz hnB hnL ho hn0 hk e1 c43 c45 KO
            go_enter Tryd.func47, Tryd.ntmps47
            go_wp2_with fail
            rw [← hq1]
            refine C.out.mono ?_
            rintro e w1 ⟨rfl, hb1⟩
            have q1' := QS.out w1 hb1
            have k01 : Keeps w w1 (fun j => j = gx) := Keeps.of_below hb1
            have cf : w1.cell? ⟨gx, 1, none⟩ = some (.int .u64 (x.ban : Int)) := q1'.cell 1
            clear hb1 NO C QS
            go_upto_region 11 with (fail)
            refine wp_region_kp (by kernel_rfl) 9 [.fix (.pointer (some ⟨gx, 0, none⟩)), .fix (.pointer (some ⟨gx, 0, none⟩)), .fix (.pointer (some ⟨gx, 1, none⟩)), .fix (.int .u64 (x.ban : Int)), .fix (.int .i64 (k : Int)), .fix (.int .u64 (2 ^ k)), .fix (.int .u64 ((x.ban ||| 1 <<< k : Nat) : Int)), .fix (.pointer (some ⟨gx, 0, none⟩)), .fix (.pointer (some ⟨gx, 1, none⟩))] (by kernel_rfl) (by kernel_rfl) (by kernel_rfl) ?_ ?_
            · intro i hi
              match i, hi with
              | 0, _ =>
                intro o ho ac w' hR hF hD K hK
                simp only [List.getElem?_toArray, List.getElem?_cons_zero, Option.some.injEq] at ho
                subst ho
                have e0 : ac.tmps.getD 0 undef = .pointer (some ⟨gx, 0, none⟩) := hF 0 (notDst_spec (by kernel_rfl))
                have d0 := (Array.getD_eq_getD_getElem? (xs := ac.tmps) (i := 0) (d := undef)).symm.trans e0
                clear hD hF
                go_simp
                exact hK _ _ (Below.refl _ _) rfl
              | 1, _ =>
                intro o ho ac w' hR hF hD K hK
                simp only [List.getElem?_toArray, List.getElem?_cons_zero, List.getElem?_cons_succ, Option.some.injEq] at ho
                subst ho
                have e36 : ac.tmps.getD 36 undef = .pointer (some ⟨gx, 0, none⟩) := hD 0 (dep_spec (by kernel_rfl)) 36 rfl
                have d36 := (Array.getD_eq_getD_getElem? (xs := ac.tmps) (i := 36) (d := undef)).symm.trans e36
                clear hD hF
                go_simp
                exact hK _ _ (Below.refl _ _) rfl
              | 2, _ =>
                intro o ho ac w' hR hF hD K hK
                simp only [List.getElem?_toArray, List.getElem?_cons_zero, List.getElem?_cons_succ, Option.some.injEq] at ho
                subst ho
                have e37 : ac.tmps.getD 37 undef = .pointer (some ⟨gx, 0, none⟩) := hD 1 (dep_spec (by kernel_rfl)) 37 rfl
                have d37 := (Array.getD_eq_getD_getElem? (xs := ac.tmps) (i := 37) (d := undef)).symm.trans e37
                clear hD hF
                go_simp
                exact hK _ _ (Below.refl _ _) rfl
              | 3, _ =>
                intro o ho ac w' hR hF hD K hK
                simp only [List.getElem?_toArray, List.getElem?_cons_zero, List.getElem?_cons_succ, Option.some.injEq] at ho
                subst ho
                have e38 : ac.tmps.getD 38 undef = .pointer (some ⟨gx, 1, none⟩) := hD 2 (dep_spec (by kernel_rfl)) 38 rfl
                have d38 := (Array.getD_eq_getD_getElem? (xs := ac.tmps) (i := 38) (d := undef)).symm.trans e38
                clear hD hF
                have q0 : w'.cell? ⟨gx, 1, none⟩ = some (.int .u64 (x.ban : Int)) := bcell hR cf
                go_simp
                exact hK _ _ (Below.refl _ _) rfl
              | 4, _ =>
                intro o ho ac w' hR hF hD K hK
                simp only [List.getElem?_toArray, List.getElem?_cons_zero, List.getElem?_cons_succ, Option.some.injEq] at ho
                subst ho
                have e5 : ac.tmps.getD 5 undef = .int .i64 (k : Int) := hF 5 (notDst_spec (by kernel_rfl))
                have d5 := (Array.getD_eq_getD_getElem? (xs := ac.tmps) (i := 5) (d := undef)).symm.trans e5
                clear hD hF
                go_simp
                exact hK _ _ (Below.refl _ _) rfl
              | 5, _ =>
                intro o ho ac w' hR hF hD K hK
                simp only [List.getElem?_toArray, List.getElem?_cons_zero, List.getElem?_cons_succ, Option.some.injEq] at ho
                subst ho
                have e40 : ac.tmps.getD 40 undef = .int .i64 (k : Int) := hD 4 (dep_spec (by kernel_rfl)) 40 rfl
                have d40 := (Array.getD_eq_getD_getElem? (xs := ac.tmps) (i := 40) (d := undef)).symm.trans e40
                clear hD hF
                go_simp
                exact hK _ _ (Below.refl _ _) rfl
              | 6, _ =>
                intro o ho ac w' hR hF hD K hK
                simp only [List.getElem?_toArray, List.getElem?_cons_zero, List.getElem?_cons_succ, Option.some.injEq] at ho
                subst ho
                have e39 : ac.tmps.getD 39 undef = .int .u64 (x.ban : Int) := hD 3 (dep_spec (by kernel_rfl)) 39 rfl
                have d39 := (Array.getD_eq_getD_getElem? (xs := ac.tmps) (i := 39) (d := undef)).symm.trans e39
                have e41 : ac.tmps.getD 41 undef = .int .u64 (2 ^ k) := hD 5 (dep_spec (by kernel_rfl)) 41 rfl
                have d41 := (Array.getD_eq_getD_getElem? (xs := ac.tmps) (i := 41) (d := undef)).symm.trans e41
                clear hD hF
                go_simp
                exact hK _ _ (Below.refl _ _) rfl
              | 7, _ =>
                intro o ho ac w' hR hF hD K hK
                simp only [List.getElem?_toArray, List.getElem?_cons_zero, List.getElem?_cons_succ, Option.some.injEq] at ho
                subst ho
                have e36 : ac.tmps.getD 36 undef = .pointer (some ⟨gx, 0, none⟩) := hD 0 (dep_spec (by kernel_rfl)) 36 rfl
                have d36 := (Array.getD_eq_getD_getElem? (xs := ac.tmps) (i := 36) (d := undef)).symm.trans e36
                have e37 : ac.tmps.getD 37 undef = .pointer (some ⟨gx, 0, none⟩) := hD 1 (dep_spec (by kernel_rfl)) 37 rfl
                have d37 := (Array.getD_eq_getD_getElem? (xs := ac.tmps) (i := 37) (d := undef)).symm.trans e37
                have e38 : ac.tmps.getD 38 undef = .pointer (some ⟨gx, 1, none⟩) := hD 2 (dep_spec (by kernel_rfl)) 38 rfl
                have d38 := (Array.getD_eq_getD_getElem? (xs := ac.tmps) (i := 38) (d := undef)).symm.trans e38
                have e39 : ac.tmps.getD 39 undef = .int .u64 (x.ban : Int) := hD 3 (dep_spec (by kernel_rfl)) 39 rfl
                have d39 := (Array.getD_eq_getD_getElem? (xs := ac.tmps) (i := 39) (d := undef)).symm.trans e39
                have e40 : ac.tmps.getD 40 undef = .int .i64 (k : Int) := hD 4 (dep_spec (by kernel_rfl)) 40 rfl
                have d40 := (Array.getD_eq_getD_getElem? (xs := ac.tmps) (i := 40) (d := undef)).symm.trans e40
                have e41 : ac.tmps.getD 41 undef = .int .u64 (2 ^ k) := hD 5 (dep_spec (by kernel_rfl)) 41 rfl
                have d41 := (Array.getD_eq_getD_getElem? (xs := ac.tmps) (i := 41) (d := undef)).symm.trans e41
                have e42 : ac.tmps.getD 42 undef = .int .u64 ((x.ban ||| 1 <<< k : Nat) : Int) := hD 6 (dep_spec (by kernel_rfl)) 42 rfl
                have d42 := (Array.getD_eq_getD_getElem? (xs := ac.tmps) (i := 42) (d := undef)).symm.trans e42
                clear hD hF
                go_simp
                exact hK _ _ (Below.refl _ _) rfl
              | 8, _ =>
                intro o ho ac w' hR hF hD K hK
                simp only [List.getElem?_toArray, List.getElem?_cons_zero, List.getElem?_cons_succ, Option.some.injEq] at ho
                subst ho
                have e36 : ac.tmps.getD 36 undef = .pointer (some ⟨gx, 0, none⟩) := hD 0 (dep_spec (by kernel_rfl)) 36 rfl
                have d36 := (Array.getD_eq_getD_getElem? (xs := ac.tmps) (i := 36) (d := undef)).symm.trans e36
                have e37 : ac.tmps.getD 37 undef = .pointer (some ⟨gx, 0, none⟩) := hD 1 (dep_spec (by kernel_rfl)) 37 rfl
                have d37 := (Array.getD_eq_getD_getElem? (xs := ac.tmps) (i := 37) (d := undef)).symm.trans e37
                have e38 : ac.tmps.getD 38 undef = .pointer (some ⟨gx, 1, none⟩) := hD 2 (dep_spec (by kernel_rfl)) 38 rfl
                have d38 := (Array.getD_eq_getD_getElem? (xs := ac.tmps) (i := 38) (d := undef)).symm.trans e38
                have e39 : ac.tmps.getD 39 undef = .int .u64 (x.ban : Int) := hD 3 (dep_spec (by kernel_rfl)) 39 rfl
                have d39 := (Array.getD_eq_getD_getElem? (xs := ac.tmps) (i := 39) (d := undef)).symm.trans e39
                have e40 : ac.tmps.getD 40 undef = .int .i64 (k : Int) := hD 4 (dep_spec (by kernel_rfl)) 40 rfl
                have d40 := (Array.getD_eq_getD_getElem? (xs := ac.tmps) (i := 40) (d := undef)).symm.trans e40
                have e41 : ac.tmps.getD 41 undef = .int .u64 (2 ^ k) := hD 5 (dep_spec (by kernel_rfl)) 41 rfl
                have d41 := (Array.getD_eq_getD_getElem? (xs := ac.tmps) (i := 41) (d := undef)).symm.trans e41
                have e42 : ac.tmps.getD 42 undef = .int .u64 ((x.ban ||| 1 <<< k : Nat) : Int) := hD 6 (dep_spec (by kernel_rfl)) 42 rfl
                have d42 := (Array.getD_eq_getD_getElem? (xs := ac.tmps) (i := 42) (d := undef)).symm.trans e42
                have e43 : ac.tmps.getD 43 undef = .pointer (some ⟨gx, 0, none⟩) := hD 7 (dep_spec (by kernel_rfl)) 43 rfl
                have d43 := (Array.getD_eq_getD_getElem? (xs := ac.tmps) (i := 43) (d := undef)).symm.trans e43
                clear hD hF
                go_simp
                exact hK _ _ (Below.refl _ _) rfl
              | k + 9, hk => omega
            · rintro ⟨tm, df⟩ w5 hdf hsz hF hR9 hV
              obtain rfl : df = [] := hdf
              obtain ⟨q, rfl⟩ := frame56 tm hsz
              have k42 : q 42 = .int .u64 ((x.ban ||| 1 <<< k : Nat) : Int) := hV 6 42 (by decide) rfl
              have k44 : q 44 = .pointer (some ⟨gx, 1, none⟩) := hV 8 44 (by decide) rfl
              simp only [k42, k44]
              clear k42 k44
              have k0 := hF 0 (notDst_spec (by kernel_rfl))
              have k1 := hF 1 (notDst_spec (by kernel_rfl))
              have k2 := hF 2 (notDst_spec (by kernel_rfl))
              have k3 := hF 3 (notDst_spec (by kernel_rfl))
              have k4 := hF 4 (notDst_spec (by kernel_rfl))
              have k5 := hF 5 (notDst_spec (by kernel_rfl))
              have k6 := hF 6 (notDst_spec (by kernel_rfl))
              have k7 := hF 7 (notDst_spec (by kernel_rfl))
              have k8 := hF 8 (notDst_spec (by kernel_rfl))
              have k9 := hF 9 (notDst_spec (by kernel_rfl))
              have k10 := hF 10 (notDst_spec (by kernel_rfl))
              have k11 := hF 11 (notDst_spec (by kernel_rfl))
              have k12 := hF 12 (notDst_spec (by kernel_rfl))
              have k13 := hF 13 (notDst_spec (by kernel_rfl))
              have k14 := hF 14 (notDst_spec (by kernel_rfl))
              have k15 := hF 15 (notDst_spec (by kernel_rfl))
              have k16 := hF 16 (notDst_spec (by kernel_rfl))
              have k17 := hF 17 (notDst_spec (by kernel_rfl))
              have k18 := hF 18 (notDst_spec (by kernel_rfl))
              have k19 := hF 19 (notDst_spec (by kernel_rfl))
              have k20 := hF 20 (notDst_spec (by kernel_rfl))
              have k21 := hF 21 (notDst_spec (by kernel_rfl))
              have k22 := hF 22 (notDst_spec (by kernel_rfl))
              have k23 := hF 23 (notDst_spec (by kernel_rfl))
              have k24 := hF 24 (notDst_spec (by kernel_rfl))
              have k25 := hF 25 (notDst_spec (by kernel_rfl))
              have k26 := hF 26 (notDst_spec (by kernel_rfl))
              have k27 := hF 27 (notDst_spec (by kernel_rfl))
              have k28 := hF 28 (notDst_spec (by kernel_rfl))
              have k29 := hF 29 (notDst_spec (by kernel_rfl))
              have k30 := hF 30 (notDst_spec (by kernel_rfl))
              have k31 := hF 31 (notDst_spec (by kernel_rfl))
              have k32 := hF 32 (notDst_spec (by kernel_rfl))
              have k33 := hF 33 (notDst_spec (by kernel_rfl))
              have k34 := hF 34 (notDst_spec (by kernel_rfl))
              have k35 := hF 35 (notDst_spec (by kernel_rfl))
              have k45 := hF 45 (notDst_spec (by kernel_rfl))
              have k46 := hF 46 (notDst_spec (by kernel_rfl))
              have k47 := hF 47 (notDst_spec (by kernel_rfl))
              have k48 := hF 48 (notDst_spec (by kernel_rfl))
              have k49 := hF 49 (notDst_spec (by kernel_rfl))
              have k50 := hF 50 (notDst_spec (by kernel_rfl))
              have k51 := hF 51 (notDst_spec (by kernel_rfl))
              have k52 := hF 52 (notDst_spec (by kernel_rfl))
              have k53 := hF 53 (notDst_spec (by kernel_rfl))
              have k54 := hF 54 (notDst_spec (by kernel_rfl))
              have k55 := hF 55 (notDst_spec (by kernel_rfl))
              simp only [Array.getD_eq_getD_getElem?, List.getElem?_toArray, List.getElem?_cons_succ, List.getElem?_cons_zero, Option.getD_some] at k0 k1 k2 k3 k4 k5 k6 k7 k8 k9 k10 k11 k12 k13 k14 k15 k16 k17 k18 k19 k20 k21 k22 k23 k24 k25 k26 k27 k28 k29 k30 k31 k32 k33 k34 k35 k45 k46 k47 k48 k49 k50 k51 k52 k53 k54 k55
              simp only [k0, k1, k2, k3, k4, k5, k6, k7, k8, k9, k10, k11, k12, k13, k14, k15, k16, k17, k18, k19, k20, k21, k22, k23, k24, k25, k26, k27, k28, k29, k30, k31, k32, k33, k34, k35, k45, k46, k47, k48, k49, k50, k51, k52, k53, k54, k55]
              clear k0 k1 k2 k3 k4 k5 k6 k7 k8 k9 k10 k11 k12 k13 k14 k15 k16 k17 k18 k19 k20 k21 k22 k23 k24 k25 k26 k27 k28 k29 k30 k31 k32 k33 k34 k35 k45 k46 k47 k48 k49 k50 k51 k52 k53 k54 k55
              clear hF hV hsz
              change wpAny _ _ _ _ 1 _ _ _
              refine wpAny_ready (rs := [9]) (by kernel_rfl) (by simp) ?_
              refine AllReady.cons (i := 9) rfl (fun K hK => ?_) AllReady.nil
              have q5 := q1'.below hR9
              have cf5 : w5.cell? ⟨gx, 1, none⟩ = some (.int .u64 (x.ban : Int)) := q5.cell 1
              have ff5 := q5.free 1
              go_simp
              refine hK _ _ ?_
              clear hK K
              refine ⟨by kernel_rfl, ?_⟩
              have q6 := q5.set 1 (.int .u64 ((x.ban ||| 1 <<< k : Nat) : Int))
              have k6 : Keeps w5 (w5.setCell ⟨gx, 1, none⟩ (.int .u64 ((x.ban ||| 1 <<< k : Nat) : Int))) (fun j => j = gx) := Keeps.set _ _ _ _ rfl
              generalize w5.setCell ⟨gx, 1, none⟩ (.int .u64 ((x.ban ||| 1 <<< k : Nat) : Int)) = w6 at q6 k6 ⊢
              have hf : Hid (MarkV w gx x v3 (some { x with ban := x.ban ||| 1 <<< k }) (.returned (.bool true)) w6) := ⟨⟨rfl, q6⟩, (k01.trans (Keeps.of_below hR9) (fun j _ e => e)).trans k6 (fun j _ e => e)⟩
              clear q6 k6 q5 cf5 ff5 hR9 cf q1' k01 BO KW
              go_wp2
              go_ret
              exact hf.out
          · by_cases c64 : c = 64
            · have e1 : ((s[0].toNat : Nat) : Int) = 64 := by rw [h0, c64]; rfl
              rw [if_neg c43, if_neg c45, if_pos c64] at ho2
              subst ho2
              have f0 : ((s[0].toNat : Int) == 43) = false := by rw [e1]; rfl
              have f0' : (s[0].toNat == 43) = false := by rw [h0, c64]; rfl
              have f3 : ((s[0].toNat : Int) == 45) = false := by rw [e1]; rfl
              have f3' : (s[0].toNat == 45) = false := by rw [h0, c64]; rfl
              have f1 : ((s[0].toNat : Int) == 64) = true := by rw [e1]; rfl
              have f2 : (s[0].toNat == 64) = true := by rw [h0, c64]; rfl
              have BO := KO.out x.inn hx.2.2
              clear hb hl hqd hd hx q hs hne h0 hn hsz hnB hnL ho hn0 hk e1 c43 c45 c64 KO
              go_enter Tryd.func47, Tryd.ntmps47
              go_wp2_with fail
              rw [← hq1]
              refine C.out.mono ?_
              rintro e w1 ⟨rfl, hb1⟩
              have q1' := QS.out w1 hb1
              have k01 : Keeps w w1 (fun j => j = gx) := Keeps.of_below hb1
              have cf : w1.cell? ⟨gx, 2, none⟩ = some (.int .u64 (x.inn : Int)) := q1'.cell 2
              clear hb1 NO C QS
              go_upto_region 13 with (fail)
              refine wp_region_kp (by kernel_rfl) 9 [.fix (.pointer (some ⟨gx, 0, none⟩)), .fix (.pointer (some ⟨gx, 0, none⟩)), .fix (.pointer (some ⟨gx, 2, none⟩)), .fix (.int .u64 (x.inn : Int)), .fix (.int .i64 (k : Int)), .fix (.int .u64 (2 ^ k)), .fix (.int .u64 ((x.inn ||| 1 <<< k : Nat) : Int)), .fix (.pointer (some ⟨gx, 0, none⟩)), .fix (.pointer (some ⟨gx, 2, none⟩))] (by kernel_rfl) (by kernel_rfl) (by kernel_rfl) ?_ ?_
              · intro i hi
                match i, hi with
                | 0, _ =>
                  intro o ho ac w' hR hF hD K hK
                  simp only [List.getElem?_toArray, List.getElem?_cons_zero, Option.some.injEq] at ho
                  subst ho
                  have e0 : ac.tmps.getD 0 undef = .pointer (some ⟨gx, 0, none⟩) := hF 0 (notDst_spec (by kernel_rfl))
                  have d0 := (Array.getD_eq_getD_getElem? (xs := ac.tmps) (i := 0) (d := undef)).symm.trans e0
                  clear hD hF
                  go_simp
                  exact hK _ _ (Below.refl _ _) rfl
                | 1, _ =>
                  intro o ho ac w' hR hF hD K hK
                  simp only [List.getElem?_toArray, List.getElem?_cons_zero, List.getElem?_cons_succ, Option.some.injEq] at ho
                  subst ho
                  have e47 : ac.tmps.getD 47 undef = .pointer (some ⟨gx, 0, none⟩) := hD 0 (dep_spec (by kernel_rfl)) 47 rfl
                  have d47 := (Array.getD_eq_getD_getElem? (xs := ac.tmps) (i := 47) (d := undef)).symm.trans e47
                  clear hD hF
                  go_simp
                  exact hK _ _ (Below.refl _ _) rfl
                | 2, _ =>
                  intro o ho ac w' hR hF hD K hK
                  simp only [List.getElem?_toArray, List.getElem?_cons_zero, List.getElem?_cons_succ, Option.some.injEq] at ho
                  subst ho
                  have e48 : ac.tmps.getD 48 undef = .pointer (some ⟨gx, 0, none⟩) := hD 1 (dep_spec (by kernel_rfl)) 48 rfl
                  have d48 := (Array.getD_eq_getD_getElem? (xs := ac.tmps) (i := 48) (d := undef)).symm.trans e48
                  clear hD hF
                  go_simp
                  exact hK _ _ (Below.refl _ _) rfl
                | 3, _ =>
                  intro o ho ac w' hR hF hD K hK
                  simp only [List.getElem?_toArray, List.getElem?_cons_zero, List.getElem?_cons_succ, Option.some.injEq] at ho
                  subst ho
                  have e49 : ac.tmps.getD 49 undef = .pointer (some ⟨gx, 2, none⟩) := hD 2 (dep_spec (by kernel_rfl)) 49 rfl
                  have d49 := (Array.getD_eq_getD_getElem? (xs := ac.tmps) (i := 49) (d := undef)).symm.trans e49
                  clear hD hF
                  have q0 : w'.cell? ⟨gx, 2, none⟩ = some (.int .u64 (x.inn : Int)) := bcell hR cf
                  go_simp
                  exact hK _ _ (Below.refl _ _) rfl
                | 4, _ =>
                  intro o ho ac w' hR hF hD K hK
                  simp only [List.getElem?_toArray, List.getElem?_cons_zero, List.getElem?_cons_succ, Option.some.injEq] at ho
                  subst ho
                  have e5 : ac.tmps.getD 5 undef = .int .i64 (k : Int) := hF 5 (notDst_spec (by kernel_rfl))
                  have d5 := (Array.getD_eq_getD_getElem? (xs := ac.tmps) (i := 5) (d := undef)).symm.trans e5
                  clear hD hF
                  go_simp
                  exact hK _ _ (Below.refl _ _) rfl
                | 5, _ =>
                  intro o ho ac w' hR hF hD K hK
                  simp only [List.getElem?_toArray, List.getElem?_cons_zero, List.getElem?_cons_succ, Option.some.injEq] at ho
                  subst ho
                  have e51 : ac.tmps.getD 51 undef = .int .i64 (k : Int) := hD 4 (dep_spec (by kernel_rfl)) 51 rfl
                  have d51 := (Array.getD_eq_getD_getElem? (xs := ac.tmps) (i := 51) (d := undef)).symm.trans e51
                  clear hD hF
                  go_simp
                  exact hK _ _ (Below.refl _ _) rfl
                | 6, _ =>
                  intro o ho ac w' hR hF hD K hK
                  simp only [List.getElem?_toArray, List.getElem?_cons_zero, List.getElem?_cons_succ, Option.some.injEq] at ho
                  subst ho
                  have e50 : ac.tmps.getD 50 undef = .int .u64 (x.inn : Int) := hD 3 (dep_spec (by kernel_rfl)) 50 rfl
                  have d50 := (Array.getD_eq_getD_getElem? (xs := ac.tmps) (i := 50) (d := undef)).symm.trans e50
                  have e52 : ac.tmps.getD 52 undef = .int .u64 (2 ^ k) := hD 5 (dep_spec (by kernel_rfl)) 52 rfl
                  have d52 := (Array.getD_eq_getD_getElem? (xs := ac.tmps) (i := 52) (d := undef)).symm.trans e52
                  clear hD hF
                  go_simp
                  exact hK _ _ (Below.refl _ _) rfl
                | 7, _ =>
                  intro o ho ac w' hR hF hD K hK
                  simp only [List.getElem?_toArray, List.getElem?_cons_zero, List.getElem?_cons_succ, Option.some.injEq] at ho
                  subst ho
                  have e47 : ac.tmps.getD 47 undef = .pointer (some ⟨gx, 0, none⟩) := hD 0 (dep_spec (by kernel_rfl)) 47 rfl
                  have d47 := (Array.getD_eq_getD_getElem? (xs := ac.tmps) (i := 47) (d := undef)).symm.trans e47
                  have e48 : ac.tmps.getD 48 undef = .pointer (some ⟨gx, 0, none⟩) := hD 1 (dep_spec (by kernel_rfl)) 48 rfl
                  have d48 := (Array.getD_eq_getD_getElem? (xs := ac.tmps) (i := 48) (d := undef)).symm.trans e48
                  have e49 : ac.tmps.getD 49 undef = .pointer (some ⟨gx, 2, none⟩) := hD 2 (dep_spec (by kernel_rfl)) 49 rfl
                  have d49 := (Array.getD_eq_getD_getElem? (xs := ac.tmps) (i := 49) (d := undef)).symm.trans e49
                  have e50 : ac.tmps.getD 50 undef = .int .u64 (x.inn : Int) := hD 3 (dep_spec (by kernel_rfl)) 50 rfl
                  have d50 := (Array.getD_eq_getD_getElem? (xs := ac.tmps) (i := 50) (d := undef)).symm.trans e50
                  have e51 : ac.tmps.getD 51 undef = .int .i64 (k : Int) := hD 4 (dep_spec (by kernel_rfl)) 51 rfl
                  have d51 := (Array.getD_eq_getD_getElem? (xs := ac.tmps) (i := 51) (d := undef)).symm.trans e51
                  have e52 : ac.tmps.getD 52 undef = .int .u64 (2 ^ k) := hD 5 (dep_spec (by kernel_rfl)) 52 rfl
                  have d52 := (Array.getD_eq_getD_getElem? (xs := ac.tmps) (i := 52) (d := undef)).symm.trans e52
                  have e53 : ac.tmps.getD 53 undef = .int .u64 ((x.inn ||| 1 <<< k : Nat) : Int) := hD 6 (dep_spec (by kernel_rfl)) 53 rfl
                  have d53 := (Array.getD_eq_getD_getElem? (xs := ac.tmps) (i := 53) (d := undef)).symm.trans e53
                  clear hD hF
                  go_simp
                  exact hK _ _ (Below.refl _ _) rfl
                | 8, _ =>
                  intro o ho ac w' hR hF hD K hK
                  simp only [List.getElem?_toArray, List.getElem?_cons_zero, List.getElem?_cons_succ, Option.some.injEq] at ho
                  subst ho
                  have e47 : ac.tmps.getD 47 undef = .pointer (some ⟨gx, 0, none⟩) := hD 0 (dep_spec (by kernel_rfl)) 47 rfl
                  have d47 := (Array.getD_eq_getD_getElem? (xs := ac.tmps) (i := 47) (d := undef)).symm.trans e47
                  have e48 : ac.tmps.getD 48 undef = .pointer (some ⟨gx, 0, none⟩) := hD 1 (dep_spec (by kernel_rfl)) 48 rfl
                  have d48 := (Array.getD_eq_getD_getElem? (xs := ac.tmps) (i := 48) (d := undef)).symm.trans e48
                  have e49 : ac.tmps.getD 49 undef = .pointer (some ⟨gx, 2, none⟩) := hD 2 (dep_spec (by kernel_rfl)) 49 rfl
                  have d49 := (Array.getD_eq_getD_getElem? (xs := ac.tmps) (i := 49) (d := undef)).symm.trans e49
                  have e50 : ac.tmps.getD 50 undef = .int .u64 (x.inn : Int) := hD 3 (dep_spec (by kernel_rfl)) 50 rfl
                  have d50 := (Array.getD_eq_getD_getElem? (xs := ac.tmps) (i := 50) (d := undef)).symm.trans e50
                  have e51 : ac.tmps.getD 51 undef = .int .i64 (k : Int) := hD 4 (dep_spec (by kernel_rfl)) 51 rfl
                  have d51 := (Array.getD_eq_getD_getElem? (xs := ac.tmps) (i := 51) (d := undef)).symm.trans e51
                  have e52 : ac.tmps.getD 52 undef = .int .u64 (2 ^ k) := hD 5 (dep_spec (by kernel_rfl)) 52 rfl
                  have d52 := (Array.getD_eq_getD_getElem? (xs := ac.tmps) (i := 52) (d := undef)).symm.trans e52
                  have e53 : ac.tmps.getD 53 undef = .int .u64 ((x.inn ||| 1 <<< k : Nat) : Int) := hD 6 (dep_spec (by kernel_rfl)) 53 rfl
                  have d53 := (Array.getD_eq_getD_getElem? (xs := ac.tmps) (i := 53) (d := undef)).symm.trans e53
                  have e54 : ac.tmps.getD 54 undef = .pointer (some ⟨gx, 0, none⟩) := hD 7 (dep_spec (by kernel_rfl)) 54 rfl
                  have d54 := (Array.getD_eq_getD_getElem? (xs := ac.tmps) (i := 54) (d := undef)).symm.trans e54
                  clear hD hF
                  go_simp
                  exact hK _ _ (Below.refl _ _) rfl
                | k + 9, hk => omega
              · rintro ⟨tm, df⟩ w5 hdf hsz hF hR9 hV
                obtain rfl : df = [] := hdf
                obtain ⟨q, rfl⟩ := frame56 tm hsz
                have k53 : q 53 = .int .u64 ((x.inn ||| 1 <<< k : Nat) : Int) := hV 6 53 (by decide) rfl
                have k55 : q 55 = .pointer (some ⟨gx, 2, none⟩) := hV 8 55 (by decide) rfl
                simp only [k53, k55]
                clear k53 k55
                have k0 := hF 0 (notDst_spec (by kernel_rfl))
                have k1 := hF 1 (notDst_spec (by kernel_rfl))
                have k2 := hF 2 (notDst_spec (by kernel_rfl))
                have k3 := hF 3 (notDst_spec (by kernel_rfl))
                have k4 := hF 4 (notDst_spec (by kernel_rfl))
                have k5 := hF 5 (notDst_spec (by kernel_rfl))
                have k6 := hF 6 (notDst_spec (by kernel_rfl))
                have k7 := hF 7 (notDst_spec (by kernel_rfl))
                have k8 := hF 8 (notDst_spec (by kernel_rfl))
                have k9 := hF 9 (notDst_spec (by kernel_rfl))
                have k10 := hF 10 (notDst_spec (by kernel_rfl))
                have k11 := hF 11 (notDst_spec (by kernel_rfl))
                have k12 := hF 12 (notDst_spec (by kernel_rfl))
                have k13 := hF 13 (notDst_spec (by kernel_rfl))
                have k14 := hF 14 (notDst_spec (by kernel_rfl))
                have k15 := hF 15 (notDst_spec (by kernel_rfl))
                have k16 := hF 16 (notDst_spec (by kernel_rfl))
                have k17 := hF 17 (notDst_spec (by kernel_rfl))
                have k18 := hF 18 (notDst_spec (by kernel_rfl))
                have k19 := hF 19 (notDst_spec (by kernel_rfl))
                have k20 := hF 20 (notDst_spec (by kernel_rfl))
                have k21 := hF 21 (notDst_spec (by kernel_rfl))
                have k22 := hF 22 (notDst_spec (by kernel_rfl))
                have k23 := hF 23 (notDst_spec (by kernel_rfl))
                have k24 := hF 24 (notDst_spec (by kernel_rfl))
                have k25 := hF 25 (notDst_spec (by kernel_rfl))
                have k26 := hF 26 (notDst_spec (by kernel_rfl))
                have k27 := hF 27 (notDst_spec (by kernel_rfl))
                have k28 := hF 28 (notDst_spec (by kernel_rfl))
                have k29 := hF 29 (notDst_spec (by kernel_rfl))
                have k30 := hF 30 (notDst_spec (by kernel_rfl))
                have k31 := hF 31 (notDst_spec (by kernel_rfl))
                have k32 := hF 32 (notDst_spec (by kernel_rfl))
                have k33 := hF 33 (notDst_spec (by kernel_rfl))
                have k34 := hF 34 (notDst_spec (by kernel_rfl))
                have k35 := hF 35 (notDst_spec (by kernel_rfl))
                have k36 := hF 36 (notDst_spec (by kernel_rfl))
                have k37 := hF 37 (notDst_spec (by kernel_rfl))
                have k38 := hF 38 (notDst_spec (by kernel_rfl))
                have k39 := hF 39 (notDst_spec (by kernel_rfl))
                have k40 := hF 40 (notDst_spec (by kernel_rfl))
                have k41 := hF 41 (notDst_spec (by kernel_rfl))
                have k42 := hF 42 (notDst_spec (by kernel_rfl))
                have k43 := hF 43 (notDst_spec (by kernel_rfl))
                have k44 := hF 44 (notDst_spec (by kernel_rfl))
                have k45 := hF 45 (notDst_spec (by kernel_rfl))
                have k46 := hF 46 (notDst_spec (by kernel_rfl))
                simp only [Array.getD_eq_getD_getElem?, List.getElem?_toArray, List.getElem?_cons_succ, List.getElem?_cons_zero, Option.getD_some] at k0 k1 k2 k3 k4 k5 k6 k7 k8 k9 k10 k11 k12 k13 k14 k15 k16 k17 k18 k19 k20 k21 k22 k23 k24 k25 k26 k27 k28 k29 k30 k31 k32 k33 k34 k35 k36 k37 k38 k39 k40 k41 k42 k43 k44 k45 k46
                simp only [k0, k1, k2, k3, k4, k5, k6, k7, k8, k9, k10, k11, k12, k13, k14, k15, k16, k17, k18, k19, k20, k21, k22, k23, k24, k25, k26, k27, k28, k29, k30, k31, k32, k33, k34, k35, k36, k37, k38, k39, k40, k41, k42, k43, k44, k45, k46]
                clear k0 k1 k2 k3 k4 k5 k6 k7 k8 k9 k10 k11 k12 k13 k14 k15 k16 k17 k18 k19 k20 k21 k22 k23 k24 k25 k26 k27 k28 k29 k30 k31 k32 k33 k34 k35 k36 k37 k38 k39 k40 k41 k42 k43 k44 k45 k46
                clear hF hV hsz
                change wpAny _ _ _ _ 1 _ _ _
                refine wpAny_ready (rs := [9]) (by kernel_rfl) (by simp) ?_
                refine AllReady.cons (i := 9) rfl (fun K hK => ?_) AllReady.nil
                have q5 := q1'.below hR9
                have cf5 : w5.cell? ⟨gx, 2, none⟩ = some (.int .u64 (x.inn : Int)) := q5.cell 2
                have ff5 := q5.free 2
                go_simp
                refine hK _ _ ?_
                clear hK K
                refine ⟨by kernel_rfl, ?_⟩
                have q6 := q5.set 2 (.int .u64 ((x.inn ||| 1 <<< k : Nat) : Int))
                have k6 : Keeps w5 (w5.setCell ⟨gx, 2, none⟩ (.int .u64 ((x.inn ||| 1 <<< k : Nat) : Int))) (fun j => j = gx) := Keeps.set _ _ _ _ rfl
                generalize w5.setCell ⟨gx, 2, none⟩ (.int .u64 ((x.inn ||| 1 <<< k : Nat) : Int)) = w6 at q6 k6 ⊢
                have hf : Hid (MarkV w gx x v3 (some { x with inn := x.inn ||| 1 <<< k }) (.returned (.bool true)) w6) := ⟨⟨rfl, q6⟩, (k01.trans (Keeps.of_below hR9) (fun j _ e => e)).trans k6 (fun j _ e => e)⟩
                clear q6 k6 q5 cf5 ff5 hR9 cf q1' k01 BO KW
                go_wp2
                go_ret
                exact hf.out
            · rw [if_neg c43, if_neg c45, if_neg c64] at ho2
              subst ho2
              have g43 : ¬ s[0].toNat = 43 := by rw [h0]; exact fun e => c43 (UInt8.toNat_inj.1 e)
              have g45 : ¬ s[0].toNat = 45 := by rw [h0]; exact fun e => c45 (UInt8.toNat_inj.1 e)
              have g64 : ¬ s[0].toNat = 64 := by rw [h0]; exact fun e => c64 (UInt8.toNat_inj.1 e)
              have f0 : ((s[0].toNat : Int) == 43) = false := by rw [beq_eq_false_iff_ne]; omega
              have f0' : (s[0].toNat == 43) = false := by rw [beq_eq_false_iff_ne]; exact g43
              have f3 : ((s[0].toNat : Int) == 45) = false := by rw [beq_eq_false_iff_ne]; omega
              have f3' : (s[0].toNat == 45) = false := by rw [beq_eq_false_iff_ne]; exact g45
              have f4 : ((s[0].toNat : Int) == 64) = false := by rw [beq_eq_false_iff_ne]; omega
              have f4' : (s[0].toNat == 64) = false := by rw [beq_eq_false_iff_ne]; exact g64
              clear hb hl hqd hd hx q hs hne h0 hn hsz hnB hnL ho hn0 hk c43 c45 c64 KO g43 g45 g64 QS
              go_enter Tryd.func47, Tryd.ntmps47
              go_wp2_with fail
              rw [← hq1]
              refine C.out.mono ?_
              rintro e w1 ⟨rfl, hb1⟩
              have hf := Lib.hid (NO.out w1 hb1)
              clear hb1 NO C
              go_wp2
              go_ret
              exact hf.out
end Go.Proofs.YtjacphcnanopjaaDoor
