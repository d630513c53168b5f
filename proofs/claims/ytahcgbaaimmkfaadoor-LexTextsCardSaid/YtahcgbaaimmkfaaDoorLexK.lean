/- Tokens of any numbers, made the program's, and their text. Conditions: what the listed variables hold; not too many, nor too long. -/
import Derived.Test.YtahcgbaaimmkfaaDoorLexE
namespace Go.Proofs.YtahcgbaaimmkfaaDoor
open Go.Shelf Go.RowKit
set_option linter.unusedVariables false
set_option linter.unusedSimpArgs false

structure Tz where
  kind : Int
  n : Int
  at_ : Int
  text : List UInt8
def tzV (k : Int) (n : Int) (a : Int) (text : ByteArray) : List Value := [.int .i64 k, .int .i64 n, .int .i64 a, .string text]
theorem tzV_one (k : Int) (n : Int) (a : Int) (text : ByteArray) : ∀ v ∈ tzV k n a text, v.oneCell' = true := by
  intro v hv
  simp only [tzV, List.mem_cons, List.not_mem_nil, or_false] at hv
  rcases hv with rfl | rfl | rfl | rfl <;> rfl
def zcells (T : List Tz) : List Value := T.flatMap (fun t => tzV t.kind t.n t.at_ ⟨t.text.toArray⟩)
theorem zcells_snoc (T : List Tz) (t : Tz) : zcells (T ++ [t]) = zcells T ++ tzV t.kind t.n t.at_ ⟨t.text.toArray⟩ := by simp [zcells]
/-- tokens that lie somewhere -/
def TzAt (w : World) (a : Option Addr) (T : List Tz) : Prop := 0 < T.length → ∃ b o, a = some ⟨b, o, none⟩ ∧ b < w.heap.size ∧ ∀ i (hi : i < T.length), w.rangeAt b (o + i * 4) (tzV T[i].kind T[i].n T[i].at_ ⟨T[i].text.toArray⟩)
theorem TzAt.below {w w' : World} {a : Option Addr} {T : List Tz} (h : TzAt w a T) (hb : Below w.heap.size w w') : TzAt w' a T := fun h0 => by
  obtain ⟨b, o, h1, h2, h3⟩ := h h0
  refine ⟨b, o, h1, Nat.lt_of_lt_of_le h2 hb.size, fun i hi j v hj => ?_⟩
  rw [hb.cell h2]
  exact h3 i hi j v hj
theorem zcells_at : ∀ (T : List Tz) (i : Nat) (hi : i < T.length) (j : Nat) (v : Value), (tzV T[i].kind T[i].n T[i].at_ ⟨T[i].text.toArray⟩)[j]? = some v → (zcells T)[i * 4 + j]? = some v
  | t :: T, 0, hi, j, v, h => by
    change (tzV t.kind t.n t.at_ ⟨t.text.toArray⟩)[j]? = some v at h
    have hj := (List.getElem?_eq_some_iff.1 h).1
    show (tzV t.kind t.n t.at_ ⟨t.text.toArray⟩ ++ zcells T)[0 * 4 + j]? = some v
    rw [Nat.zero_mul, Nat.zero_add, List.getElem?_append_left hj]
    exact h
  | t :: T, i + 1, hi, j, v, h => by
    have ih := zcells_at T i (by simpa using hi) j v h
    show (tzV t.kind t.n t.at_ ⟨t.text.toArray⟩ ++ zcells T)[(i + 1) * 4 + j]? = some v
    have hl : (tzV t.kind t.n t.at_ ⟨t.text.toArray⟩).length = 4 := rfl
    rw [List.getElem?_append_right (by rw [hl]; omega), hl, show (i + 1) * 4 + j - 4 = i * 4 + j by omega]
    exact ih
theorem TzAt.of_own {w : World} {base : Nat} {a : Option Addr} {c : Nat} {T : List Tz} (h : OwnR w base TTok 4 a T.length c (zcells T)) : TzAt w a T := fun h0 => by
  obtain ⟨g, e, _, hl⟩ := OwnR.addr h h0
  subst e
  refine ⟨g, 0, rfl, hl, fun i hi j v hj => ?_⟩
  have hj4 : j < 4 := (List.getElem?_eq_some_iff.1 hj).1
  rw [Nat.zero_add, OwnR.cell h (i * 4 + j) (by omega)]
  exact zcells_at T i hi j v hj
/-- a token's text as Text tells it -/
def tellZ (t : Tz) : List UInt8 := if t.kind = 2 then Lib.itoa t.n else t.text
def tellZV (T : List Tz) : List Value := T.map (fun t => .string ⟨(tellZ t).toArray⟩)
/-- a slice of one new token -/
def Kp.tokP (base : Nat) (l : List Value) : Kp := ⟨fun v w => ∃ g, v = .slice (some ⟨g, 0, none⟩) 1 1 ∧ base ≤ g ∧ RowAt w g TTok l, fun v w w' h hb => by
  obtain ⟨g, h1, h2, h3⟩ := h
  exact ⟨g, h1, h2, h3.below hb⟩⟩
set_option maxRecDepth 8000 in
set_option maxHeartbeats 8000000 in
theorem own_any (w : World) (a : Option Addr) (c : Nat) (T : List Tz) (ht : TzAt w a T) (hT : T.length ≤ 6000) :
    Calls Tryd.prog 15 #[.slice a T.length c] w fun e w' => (∃ oa oc, e = .returned (.slice oa T.length oc) ∧ OwnR w' w.heap.size TTok 4 oa T.length oc (zcells T)) ∧ Below w.heap.size w w' := by
  obtain ⟨nt, hnt⟩ : ∃ nt, nt = T.length := ⟨_, rfl⟩
  rw [← hnt]
  have hntI : (nt : Int) ≤ 6000 := by omega
  have hb0 : Hid (Below w.heap.size w w) := Below.refl _ _
  have O0 : Hid (OwnR w w.heap.size TTok 4 none 0 0 (zcells (T.take 0))) := OwnR.nil _ _ _ _
  replace hnt := Lib.hid hnt
  replace ht := Lib.hid ht
  replace hT := Lib.hid hT
  go_enter Tryd.func15, Tryd.ntmps15
  go_wp2
  go_loopw [3, 4] (fun ov iv wr => ∃ (ix : Nat) (oa : Option Addr) (oc : Nat), ov = .slice oa ix oc ∧ iv = .int .i64 (ix : Int) ∧ ix ≤ nt ∧ Hid (OwnR wr w.heap.size TTok 4 oa ix oc (zcells (T.take ix))) ∧ Hid (Below w.heap.size w wr)) (fun _ iv _ => nt - (intOf iv).toNat)
  case atStart => exact ⟨0, none, 0, rfl, rfl, Nat.zero_le _, O0, hb0⟩
  case round =>
    obtain ⟨ix, oa, oc, rfl, rfl, hi, own, zr⟩ := hrel
    clear O0 hb0
    by_cases hl : ix < nt
    · have hlI : (ix : Int) < (nt : Int) := by omega
      have hlT : Hid (ix < T.length) := by show _ < _; have := hnt.out; omega
      obtain ⟨b, o, ea, hbl, hcell⟩ := (ht.out.below zr.out) (by have := hlT.out; omega)
      have SG := hcell ix hlT.out
      have hsn : Hid (zcells (T.take (ix + 1)) = zcells (T.take ix) ++ tzV (T[ix]'hlT.out).kind (T[ix]'hlT.out).n (T[ix]'hlT.out).at_ ⟨(T[ix]'hlT.out).text.toArray⟩) := by
        show _ = _
        rw [List.take_succ_eq_append_getElem hlT.out, zcells_snoc]
      generalize T[ix]'hlT.out = x at SG hsn
      obtain ⟨xk, xn, xa, xt⟩ := x
      dsimp only at SG hsn
      generalize (⟨xt.toArray⟩ : ByteArray) = xs at SG hsn
      subst ea
      replace SG := Lib.hid SG
      clear hcell
      have hnew : RowAt (wr.alloc (.cells #[.int .i64 xk, .int .i64 xn, .int .i64 xa, .string xs] TTok)) wr.heap.size TTok (tzV xk xn xa xs) := RowAt.new #[.int .i64 xk, .int .i64 xn, .int .i64 xa, .string xs] rfl
      clear hnew
      go_upto_region 5 with (fail)
      refine wp_region_kp (by kernel_rfl) 23 [.fix (.slice oa ix oc), .fix (.slice (some ⟨b, o, none⟩) nt c), .fix (.int .i64 (ix : Int)), .fix (.pointer (some ⟨b, o + ix * 4, none⟩)), .fix (.pointer (some ⟨b, o + ix * 4, none⟩)), .fix (.int .i64 xk), .fix (.slice (some ⟨b, o, none⟩) nt c), .fix (.int .i64 (ix : Int)), .fix (.pointer (some ⟨b, o + ix * 4, none⟩)), .fix (.pointer (some ⟨b, o + ix * 4 + 1, none⟩)), .fix (.int .i64 xn), .fix (.slice (some ⟨b, o, none⟩) nt c), .fix (.int .i64 (ix : Int)), .fix (.pointer (some ⟨b, o + ix * 4, none⟩)), .fix (.pointer (some ⟨b, o + ix * 4 + 2, none⟩)), .fix (.int .i64 xa), .fix (.slice (some ⟨b, o, none⟩) nt c), .fix (.int .i64 (ix : Int)), .fix (.pointer (some ⟨b, o + ix * 4, none⟩)), .fix (.pointer (some ⟨b, o + ix * 4 + 3, none⟩)), .fix (.string xs), .fix (.agg #[.int .i64 xk, .int .i64 xn, .int .i64 xa, .string xs]), Kp.tokP wr.heap.size (tzV xk xn xa xs)] (by kernel_rfl) (by kernel_rfl) (by kernel_rfl) ?_ ?_
      · intro i hi
        match i, hi with
        | 0, _ =>
          intro o ho ac w' hR hF hD K hK
          simp only [List.getElem?_toArray, List.getElem?_cons_zero, Option.some.injEq] at ho
          subst ho
          have e3 : ac.tmps.getD 3 undef = .slice oa ix oc := hF 3 (notDst_spec (by kernel_rfl))
          have d3 := (Array.getD_eq_getD_getElem? (xs := ac.tmps) (i := 3) (d := undef)).symm.trans e3
          clear hD hF
          go_simp
          exact hK _ _ (Below.refl _ _) rfl
        | 1, _ =>
          intro o ho ac w' hR hF hD K hK
          simp only [List.getElem?_toArray, List.getElem?_cons_zero, List.getElem?_cons_succ, Option.some.injEq] at ho
          subst ho
          have e0 : ac.tmps.getD 0 undef = .slice (some ⟨b, o, none⟩) nt c := hF 0 (notDst_spec (by kernel_rfl))
          have d0 := (Array.getD_eq_getD_getElem? (xs := ac.tmps) (i := 0) (d := undef)).symm.trans e0
          clear hD hF
          go_simp
          exact hK _ _ (Below.refl _ _) rfl
        | 2, _ =>
          intro o ho ac w' hR hF hD K hK
          simp only [List.getElem?_toArray, List.getElem?_cons_zero, List.getElem?_cons_succ, Option.some.injEq] at ho
          subst ho
          have e4 : ac.tmps.getD 4 undef = .int .i64 (ix : Int) := hF 4 (notDst_spec (by kernel_rfl))
          have d4 := (Array.getD_eq_getD_getElem? (xs := ac.tmps) (i := 4) (d := undef)).symm.trans e4
          clear hD hF
          go_simp
          exact hK _ _ (Below.refl _ _) rfl
        | 3, _ =>
          intro o ho ac w' hR hF hD K hK
          simp only [List.getElem?_toArray, List.getElem?_cons_zero, List.getElem?_cons_succ, Option.some.injEq] at ho
          subst ho
          have e12 : ac.tmps.getD 12 undef = .slice (some ⟨b, o, none⟩) nt c := hD 1 (dep_spec (by kernel_rfl)) 12 rfl
          have d12 := (Array.getD_eq_getD_getElem? (xs := ac.tmps) (i := 12) (d := undef)).symm.trans e12
          have e13 : ac.tmps.getD 13 undef = .int .i64 (ix : Int) := hD 2 (dep_spec (by kernel_rfl)) 13 rfl
          have d13 := (Array.getD_eq_getD_getElem? (xs := ac.tmps) (i := 13) (d := undef)).symm.trans e13
          clear hD hF
          go_simp
          exact hK _ _ (Below.refl _ _) rfl
        | 4, _ =>
          intro o ho ac w' hR hF hD K hK
          simp only [List.getElem?_toArray, List.getElem?_cons_zero, List.getElem?_cons_succ, Option.some.injEq] at ho
          subst ho
          have e14 : ac.tmps.getD 14 undef = .pointer (some ⟨b, o + ix * 4, none⟩) := hD 3 (dep_spec (by kernel_rfl)) 14 rfl
          have d14 := (Array.getD_eq_getD_getElem? (xs := ac.tmps) (i := 14) (d := undef)).symm.trans e14
          clear hD hF
          go_simp
          exact hK _ _ (Below.refl _ _) rfl
        | 5, _ =>
          intro o ho ac w' hR hF hD K hK
          simp only [List.getElem?_toArray, List.getElem?_cons_zero, List.getElem?_cons_succ, Option.some.injEq] at ho
          subst ho
          have e15 : ac.tmps.getD 15 undef = .pointer (some ⟨b, o + ix * 4, none⟩) := hD 4 (dep_spec (by kernel_rfl)) 15 rfl
          have d15 := (Array.getD_eq_getD_getElem? (xs := ac.tmps) (i := 15) (d := undef)).symm.trans e15
          clear hD hF
          have q0 : w'.cell? ⟨b, o + ix * 4, none⟩ = some (.int .i64 xk) := bcell hR (SG.out 0 _ rfl)
          go_simp
          exact hK _ _ (Below.refl _ _) rfl
        | 6, _ =>
          intro o ho ac w' hR hF hD K hK
          simp only [List.getElem?_toArray, List.getElem?_cons_zero, List.getElem?_cons_succ, Option.some.injEq] at ho
          subst ho
          have e0 : ac.tmps.getD 0 undef = .slice (some ⟨b, o, none⟩) nt c := hF 0 (notDst_spec (by kernel_rfl))
          have d0 := (Array.getD_eq_getD_getElem? (xs := ac.tmps) (i := 0) (d := undef)).symm.trans e0
          clear hD hF
          go_simp
          exact hK _ _ (Below.refl _ _) rfl
        | 7, _ =>
          intro o ho ac w' hR hF hD K hK
          simp only [List.getElem?_toArray, List.getElem?_cons_zero, List.getElem?_cons_succ, Option.some.injEq] at ho
          subst ho
          have e4 : ac.tmps.getD 4 undef = .int .i64 (ix : Int) := hF 4 (notDst_spec (by kernel_rfl))
          have d4 := (Array.getD_eq_getD_getElem? (xs := ac.tmps) (i := 4) (d := undef)).symm.trans e4
          clear hD hF
          go_simp
          exact hK _ _ (Below.refl _ _) rfl
        | 8, _ =>
          intro o ho ac w' hR hF hD K hK
          simp only [List.getElem?_toArray, List.getElem?_cons_zero, List.getElem?_cons_succ, Option.some.injEq] at ho
          subst ho
          have e17 : ac.tmps.getD 17 undef = .slice (some ⟨b, o, none⟩) nt c := hD 6 (dep_spec (by kernel_rfl)) 17 rfl
          have d17 := (Array.getD_eq_getD_getElem? (xs := ac.tmps) (i := 17) (d := undef)).symm.trans e17
          have e18 : ac.tmps.getD 18 undef = .int .i64 (ix : Int) := hD 7 (dep_spec (by kernel_rfl)) 18 rfl
          have d18 := (Array.getD_eq_getD_getElem? (xs := ac.tmps) (i := 18) (d := undef)).symm.trans e18
          clear hD hF
          go_simp
          exact hK _ _ (Below.refl _ _) rfl
        | 9, _ =>
          intro o ho ac w' hR hF hD K hK
          simp only [List.getElem?_toArray, List.getElem?_cons_zero, List.getElem?_cons_succ, Option.some.injEq] at ho
          subst ho
          have e19 : ac.tmps.getD 19 undef = .pointer (some ⟨b, o + ix * 4, none⟩) := hD 8 (dep_spec (by kernel_rfl)) 19 rfl
          have d19 := (Array.getD_eq_getD_getElem? (xs := ac.tmps) (i := 19) (d := undef)).symm.trans e19
          clear hD hF
          go_simp
          exact hK _ _ (Below.refl _ _) rfl
        | 10, _ =>
          intro o ho ac w' hR hF hD K hK
          simp only [List.getElem?_toArray, List.getElem?_cons_zero, List.getElem?_cons_succ, Option.some.injEq] at ho
          subst ho
          have e20 : ac.tmps.getD 20 undef = .pointer (some ⟨b, o + ix * 4 + 1, none⟩) := hD 9 (dep_spec (by kernel_rfl)) 20 rfl
          have d20 := (Array.getD_eq_getD_getElem? (xs := ac.tmps) (i := 20) (d := undef)).symm.trans e20
          clear hD hF
          have q0 : w'.cell? ⟨b, o + ix * 4 + 1, none⟩ = some (.int .i64 xn) := bcell hR (SG.out 1 _ rfl)
          go_simp
          exact hK _ _ (Below.refl _ _) rfl
        | 11, _ =>
          intro o ho ac w' hR hF hD K hK
          simp only [List.getElem?_toArray, List.getElem?_cons_zero, List.getElem?_cons_succ, Option.some.injEq] at ho
          subst ho
          have e0 : ac.tmps.getD 0 undef = .slice (some ⟨b, o, none⟩) nt c := hF 0 (notDst_spec (by kernel_rfl))
          have d0 := (Array.getD_eq_getD_getElem? (xs := ac.tmps) (i := 0) (d := undef)).symm.trans e0
          clear hD hF
          go_simp
          exact hK _ _ (Below.refl _ _) rfl
        | 12, _ =>
          intro o ho ac w' hR hF hD K hK
          simp only [List.getElem?_toArray, List.getElem?_cons_zero, List.getElem?_cons_succ, Option.some.injEq] at ho
          subst ho
          have e4 : ac.tmps.getD 4 undef = .int .i64 (ix : Int) := hF 4 (notDst_spec (by kernel_rfl))
          have d4 := (Array.getD_eq_getD_getElem? (xs := ac.tmps) (i := 4) (d := undef)).symm.trans e4
          clear hD hF
          go_simp
          exact hK _ _ (Below.refl _ _) rfl
        | 13, _ =>
          intro o ho ac w' hR hF hD K hK
          simp only [List.getElem?_toArray, List.getElem?_cons_zero, List.getElem?_cons_succ, Option.some.injEq] at ho
          subst ho
          have e22 : ac.tmps.getD 22 undef = .slice (some ⟨b, o, none⟩) nt c := hD 11 (dep_spec (by kernel_rfl)) 22 rfl
          have d22 := (Array.getD_eq_getD_getElem? (xs := ac.tmps) (i := 22) (d := undef)).symm.trans e22
          have e23 : ac.tmps.getD 23 undef = .int .i64 (ix : Int) := hD 12 (dep_spec (by kernel_rfl)) 23 rfl
          have d23 := (Array.getD_eq_getD_getElem? (xs := ac.tmps) (i := 23) (d := undef)).symm.trans e23
          clear hD hF
          go_simp
          exact hK _ _ (Below.refl _ _) rfl
        | 14, _ =>
          intro o ho ac w' hR hF hD K hK
          simp only [List.getElem?_toArray, List.getElem?_cons_zero, List.getElem?_cons_succ, Option.some.injEq] at ho
          subst ho
          have e24 : ac.tmps.getD 24 undef = .pointer (some ⟨b, o + ix * 4, none⟩) := hD 13 (dep_spec (by kernel_rfl)) 24 rfl
          have d24 := (Array.getD_eq_getD_getElem? (xs := ac.tmps) (i := 24) (d := undef)).symm.trans e24
          clear hD hF
          go_simp
          exact hK _ _ (Below.refl _ _) rfl
        | 15, _ =>
          intro o ho ac w' hR hF hD K hK
          simp only [List.getElem?_toArray, List.getElem?_cons_zero, List.getElem?_cons_succ, Option.some.injEq] at ho
          subst ho
          have e25 : ac.tmps.getD 25 undef = .pointer (some ⟨b, o + ix * 4 + 2, none⟩) := hD 14 (dep_spec (by kernel_rfl)) 25 rfl
          have d25 := (Array.getD_eq_getD_getElem? (xs := ac.tmps) (i := 25) (d := undef)).symm.trans e25
          clear hD hF
          have q0 : w'.cell? ⟨b, o + ix * 4 + 2, none⟩ = some (.int .i64 xa) := bcell hR (SG.out 2 _ rfl)
          go_simp
          exact hK _ _ (Below.refl _ _) rfl
        | 16, _ =>
          intro o ho ac w' hR hF hD K hK
          simp only [List.getElem?_toArray, List.getElem?_cons_zero, List.getElem?_cons_succ, Option.some.injEq] at ho
          subst ho
          have e0 : ac.tmps.getD 0 undef = .slice (some ⟨b, o, none⟩) nt c := hF 0 (notDst_spec (by kernel_rfl))
          have d0 := (Array.getD_eq_getD_getElem? (xs := ac.tmps) (i := 0) (d := undef)).symm.trans e0
          clear hD hF
          go_simp
          exact hK _ _ (Below.refl _ _) rfl
        | 17, _ =>
          intro o ho ac w' hR hF hD K hK
          simp only [List.getElem?_toArray, List.getElem?_cons_zero, List.getElem?_cons_succ, Option.some.injEq] at ho
          subst ho
          have e4 : ac.tmps.getD 4 undef = .int .i64 (ix : Int) := hF 4 (notDst_spec (by kernel_rfl))
          have d4 := (Array.getD_eq_getD_getElem? (xs := ac.tmps) (i := 4) (d := undef)).symm.trans e4
          clear hD hF
          go_simp
          exact hK _ _ (Below.refl _ _) rfl
        | 18, _ =>
          intro o ho ac w' hR hF hD K hK
          simp only [List.getElem?_toArray, List.getElem?_cons_zero, List.getElem?_cons_succ, Option.some.injEq] at ho
          subst ho
          have e27 : ac.tmps.getD 27 undef = .slice (some ⟨b, o, none⟩) nt c := hD 16 (dep_spec (by kernel_rfl)) 27 rfl
          have d27 := (Array.getD_eq_getD_getElem? (xs := ac.tmps) (i := 27) (d := undef)).symm.trans e27
          have e28 : ac.tmps.getD 28 undef = .int .i64 (ix : Int) := hD 17 (dep_spec (by kernel_rfl)) 28 rfl
          have d28 := (Array.getD_eq_getD_getElem? (xs := ac.tmps) (i := 28) (d := undef)).symm.trans e28
          clear hD hF
          go_simp
          exact hK _ _ (Below.refl _ _) rfl
        | 19, _ =>
          intro o ho ac w' hR hF hD K hK
          simp only [List.getElem?_toArray, List.getElem?_cons_zero, List.getElem?_cons_succ, Option.some.injEq] at ho
          subst ho
          have e29 : ac.tmps.getD 29 undef = .pointer (some ⟨b, o + ix * 4, none⟩) := hD 18 (dep_spec (by kernel_rfl)) 29 rfl
          have d29 := (Array.getD_eq_getD_getElem? (xs := ac.tmps) (i := 29) (d := undef)).symm.trans e29
          clear hD hF
          go_simp
          exact hK _ _ (Below.refl _ _) rfl
        | 20, _ =>
          intro o ho ac w' hR hF hD K hK
          simp only [List.getElem?_toArray, List.getElem?_cons_zero, List.getElem?_cons_succ, Option.some.injEq] at ho
          subst ho
          have e30 : ac.tmps.getD 30 undef = .pointer (some ⟨b, o + ix * 4 + 3, none⟩) := hD 19 (dep_spec (by kernel_rfl)) 30 rfl
          have d30 := (Array.getD_eq_getD_getElem? (xs := ac.tmps) (i := 30) (d := undef)).symm.trans e30
          clear hD hF
          have q0 : w'.cell? ⟨b, o + ix * 4 + 3, none⟩ = some (.string xs) := bcell hR (SG.out 3 _ rfl)
          go_simp
          exact hK _ _ (Below.refl _ _) rfl
        | 21, _ =>
          intro o ho ac w' hR hF hD K hK
          simp only [List.getElem?_toArray, List.getElem?_cons_zero, List.getElem?_cons_succ, Option.some.injEq] at ho
          subst ho
          have e16 : ac.tmps.getD 16 undef = .int .i64 xk := hD 5 (dep_spec (by kernel_rfl)) 16 rfl
          have d16 := (Array.getD_eq_getD_getElem? (xs := ac.tmps) (i := 16) (d := undef)).symm.trans e16
          have e21 : ac.tmps.getD 21 undef = .int .i64 xn := hD 10 (dep_spec (by kernel_rfl)) 21 rfl
          have d21 := (Array.getD_eq_getD_getElem? (xs := ac.tmps) (i := 21) (d := undef)).symm.trans e21
          have e26 : ac.tmps.getD 26 undef = .int .i64 xa := hD 15 (dep_spec (by kernel_rfl)) 26 rfl
          have d26 := (Array.getD_eq_getD_getElem? (xs := ac.tmps) (i := 26) (d := undef)).symm.trans e26
          have e31 : ac.tmps.getD 31 undef = .string xs := hD 20 (dep_spec (by kernel_rfl)) 31 rfl
          have d31 := (Array.getD_eq_getD_getElem? (xs := ac.tmps) (i := 31) (d := undef)).symm.trans e31
          clear hD hF
          go_simp
          exact hK _ _ (Below.refl _ _) rfl
        | 22, _ =>
          intro o ho ac w' hR hF hD K hK
          simp only [List.getElem?_toArray, List.getElem?_cons_zero, List.getElem?_cons_succ, Option.some.injEq] at ho
          subst ho
          have e32 : ac.tmps.getD 32 undef = .agg #[.int .i64 xk, .int .i64 xn, .int .i64 xa, .string xs] := hD 21 (dep_spec (by kernel_rfl)) 32 rfl
          have d32 := (Array.getD_eq_getD_getElem? (xs := ac.tmps) (i := 32) (d := undef)).symm.trans e32
          clear hD hF
          go_simp
          exact hK _ _ (balloc (Below.refl _ _) _) ⟨w'.heap.size, rfl, hR.size, RowAt.new #[.int .i64 xk, .int .i64 xn, .int .i64 xa, .string xs] rfl⟩
        | k + 23, hk => omega
      · rintro ⟨tm, df⟩ w5 hdf hsz hF hR9 hV
        obtain rfl : df = [] := hdf
        obtain ⟨q, rfl⟩ := frame36 tm hsz
        obtain ⟨g7, k33, hg7, r7⟩ := hV 22 33 (by decide) rfl
        replace k33 : q 33 = _ := k33
        have k11 : q 11 = .slice oa ix oc := hV 0 11 (by decide) rfl
        rw [k33, k11]
        clear k33 k11
        have k0 := hF 0 (notDst_spec (by kernel_rfl))
        have k1 := hF 1 (notDst_spec (by kernel_rfl))
        have k2 := hF 2 (notDst_spec (by kernel_rfl))
        have k3 := hF 3 (notDst_spec (by kernel_rfl))
        have k4 := hF 4 (notDst_spec (by kernel_rfl))
        have k5 := hF 5 (notDst_spec (by kernel_rfl))
        have k6 := hF 6 (notDst_spec (by kernel_rfl))
        have k7 := hF 7 (notDst_spec (by kernel_rfl))
        have k8 := hF 8 (notDst_spec (by kernel_rfl))
        have k9 := hF 9 (notDst_spec (by kernel_rfl))
        have k10 := hF 10 (notDst_spec (by kernel_rfl))
        have k34 := hF 34 (notDst_spec (by kernel_rfl))
        have k35 := hF 35 (notDst_spec (by kernel_rfl))
        simp only [Array.getD_eq_getD_getElem?, List.getElem?_toArray, List.getElem?_cons_succ, List.getElem?_cons_zero, Option.getD_some] at k0 k1 k2 k3 k4 k5 k6 k7 k8 k9 k10 k34 k35
        simp only [k0, k1, k2, k3, k4, k5, k6, k7, k8, k9, k10, k34, k35]
        clear k0 k1 k2 k3 k4 k5 k6 k7 k8 k9 k10 k34 k35
        clear hF hV hsz
        have own5 : OwnR w5 w.heap.size TTok 4 oa ix oc (zcells (T.take ix)) := OwnR.keeps (S := fun _ => False) own.out (Keeps.of_below hR9) (fun _ _ h => h)
        have z5 := Lib.hid (btrans zr.out hR9)
        clear hR9 SG hbl own zr hg7
        change wpAny _ _ _ _ 2 _ _ _
        refine wpAny_ready (rs := [23]) (by kernel_rfl) (by simp) ?_
        refine AllReady.cons (i := 23) rfl (fun K hK => ?_) AllReady.nil
        refine step_appR rfl (.tmp 11) (.tmp 33) 23 TTok (.agg #[.int .i64 0, .int .i64 0, .int .i64 0, .string ⟨#[]⟩]) 4 40 rfl Tryd.underlying23 infoTok3 rfl (by decide) w.heap.size oa ix oc (zcells (T.take ix)) rfl own5 g7 1 (tzV xk xn xa xs) rfl rfl (fun j u hj => by
          have := r7.cell j
          rw [hj] at this
          rw [add_off, Nat.zero_add]
          exact this) (tzV_one _ _ _ _) (by have := hT.out; have := hlT.out; unfold maxLen; omega) (by have := hT.out; have := hlT.out; omega) z5.out.size ?_
        intro oa8 oc8 w8 own8 hg8 _
        have z8 := Lib.hid (bgrown z5.out hg8 (fun k hk => (OwnR.lt own5 hk).1))
        have own9 : Hid (OwnR w8 w.heap.size TTok 4 oa8 (ix + 1) oc8 (zcells (T.take (ix + 1)))) := by rw [hsn.out]; exact own8
        clear own8 hg8 own5 r7 hsn
        refine hK _ _ ?_
        clear hK K
        refine wpAny_ready (rs := [24]) (by kernel_rfl) (by simp) ?_
        refine AllReady.cons (i := 24) rfl (fun K hK => ?_) AllReady.nil
        go_simp
        refine hK _ _ ?_
        clear hK K
        refine ⟨by kernel_rfl, ?_⟩
        go_wp2
        go_roundw
        case rel => exact ⟨ix + 1, oa8, oc8, rfl, rfl, by omega, own9, z8⟩
        case measure => simp [intOf]; omega
    · obtain rfl : ix = nt := by omega
      have hlI : ¬ (ix : Int) < (ix : Int) := by omega
      have hall : Hid (T.take ix = T) := List.take_of_length_le (by have := hnt.out; omega)
      rw [hall.out] at own
      go_wp2
      go_ret
      exact ⟨⟨oa, oc, rfl, own.out⟩, zr.out⟩
set_option maxRecDepth 8000 in
set_option maxHeartbeats 8000000 in
theorem textz_any (w : World) (hd : Door w) (a : Option Addr) (c : Nat) (T : List Tz) (ht : TzAt w a T) (hT : T.length ≤ 6000) (hn : ∀ t ∈ T, -9223372036854775808 ≤ t.n ∧ t.n ≤ 9223372036854775807) (hj : (joinT (T.map tellZ)).length ≤ 1000000000) :
    Calls Tryd.prog 14 #[.slice a T.length c] w fun e w' => e = .returned (.string ⟨(joinT (T.map tellZ)).toArray⟩) ∧ Below w.heap.size w w' := by
  obtain ⟨res, hres⟩ : ∃ res : ByteArray, res = ⟨(joinT (T.map tellZ)).toArray⟩ := ⟨_, rfl⟩
  rw [← hres]
  obtain ⟨nt, hnt⟩ : ∃ nt, nt = T.length := ⟨_, rfl⟩
  rw [← hnt]
  replace hres := Lib.hid hres
  replace hj := Lib.hid hj
  have hntI : (nt : Int) ≤ 6000 := by omega
  replace hnt := Lib.hid hnt
  replace hd := Lib.hid hd
  replace ht := Lib.hid ht
  replace hn := Lib.hid hn
  replace hT := Lib.hid hT
  have hb0 : Hid (Below w.heap.size w w) := Below.refl _ _
  have O0 : Hid (OwnR w w.heap.size 9 1 none 0 0 (tellZV (T.take 0))) := OwnR.nil _ _ _ _
  go_enter Tryd.func14, Tryd.ntmps14
  go_wp2
  go_loopw [3, 8] (fun ov iv wr => ∃ (i : Nat) (oa : Option Addr) (oc : Nat), ov = .slice oa i oc ∧ iv = .int .i64 (i : Int) ∧ i ≤ nt ∧ Hid (OwnR wr w.heap.size 9 1 oa i oc (tellZV (T.take i))) ∧ Hid (Below w.heap.size w wr)) (fun _ iv _ => nt - (intOf iv).toNat)
  case atStart => exact ⟨0, none, 0, rfl, rfl, Nat.zero_le _, O0, hb0⟩
  case round =>
    obtain ⟨i, oa, oc, rfl, rfl, hi, own, zr⟩ := hrel
    clear O0 hb0
    by_cases hl : i < nt
    · have hlI : (i : Int) < (nt : Int) := by omega
      have hlT : Hid (i < T.length) := by show _ < _; have := hnt.out; omega
      obtain ⟨b, o, ea, hbl, hcell⟩ := (ht.out.below zr.out) (by have := hlT.out; omega)
      have SG := Lib.hid (hcell i hlT.out)
      obtain ⟨x, hx⟩ : ∃ x, x = T[i]'hlT.out := ⟨_, rfl⟩
      rw [← hx] at SG
      have hnx : -9223372036854775808 ≤ x.n ∧ x.n ≤ 9223372036854775807 := by rw [hx]; exact hn.out _ (List.getElem_mem hlT.out)
      have hsn : Hid (tellZV (T.take (i + 1)) = tellZV (T.take i) ++ [.string ⟨(tellZ x).toArray⟩]) := by
        show _ = _
        rw [List.take_succ_eq_append_getElem hlT.out, hx]
        unfold tellZV
        rw [List.map_append]
        rfl
      have D := Lib.hid (fun v (hb : Below w.heap.size w v) => decimal_any v (hd.out.below hb) x.n hnx.1 hnx.2)
      subst ea
      clear hx hcell hnx
      obtain ⟨xk, xn, xa, xt⟩ := x
      dsimp only at SG D
      have hcase : Hid ((xk = 2 → tellZ ⟨xk, xn, xa, xt⟩ = Lib.itoa xn) ∧ (xk ≠ 2 → tellZ ⟨xk, xn, xa, xt⟩ = xt)) := ⟨fun h => if_pos h, fun h => if_neg h⟩
      generalize tellZ ⟨xk, xn, xa, xt⟩ = tx at hsn hcase
      obtain ⟨xs, hxs⟩ : ∃ xs : ByteArray, xs = ⟨xt.toArray⟩ := ⟨_, rfl⟩
      rw [← hxs] at SG
      replace hxs := Lib.hid hxs
      go_upto_region 4 with (fail)
      refine wp_region_list ?_
      refine wpList_plain rfl (fun K hK => ?_)
      go_simp
      refine hK _ _ ?_
      clear hK K
      refine wpList_load_mid rfl 39 (.tmp 10) rfl b (o + i * 4) rfl (tzV xk xn xa xs) _ SG.out undTok.choose_spec.1 undTok.choose_spec.2 (by kernel_rfl) ?_
      refine wpList_plain rfl (fun K hK => ?_)
      go_simp
      refine hK _ _ ?_
      clear hK K
      obtain ⟨w4, hw4⟩ : ∃ w4, w4 = wr.alloc (.cells #[.int .i64 0, .int .i64 0, .int .i64 0, .string ⟨#[]⟩] TTok) := ⟨_, rfl⟩
      obtain ⟨g, hg⟩ : ∃ g, g = wr.heap.size := ⟨_, rfl⟩
      have r4 : RowAt w4 g TTok (tzV 0 0 0 ⟨#[]⟩) := by rw [hw4]; exact RowAt.new #[.int .i64 0, .int .i64 0, .int .i64 0, .string ⟨#[]⟩] hg
      have b34 : Below wr.heap.size wr w4 := by rw [hw4]; exact balloc (Below.refl _ _) _
      rw [← hw4, ← hg]
      replace hw4 := Lib.hid hw4
      replace hg := Lib.hid hg
      refine list_store (l := tzV xk xn xa xs) infoTok r4 rfl rfl (tzV_one _ _ _ _) rfl 5 11 rfl rfl rfl ?_
      intro w5 q5 k5
      refine wpList_nil ?_
      have own5 : OwnR w5 w.heap.size 9 1 oa i oc (tellZV (T.take i)) := OwnR.keeps (OwnR.keeps own.out (Keeps.of_below (S := fun _ => False) b34) (fun _ _ h => h)) k5 (fun j hj e => by
        have h1 := (OwnR.lt own.out hj).2
        have h3 := hg.out
        omega)
      have z5 := Lib.hid (k5.below (btrans zr.out b34) (fun j hj => by cases hj; rw [hg.out]; exact zr.out.size))
      have c0 : w5.cell? ⟨g, 0, none⟩ = some (.int .i64 xk) := q5.cell 0
      have c1 : w5.cell? ⟨g, 1, none⟩ = some (.int .i64 xn) := q5.cell 1
      have c3 : w5.cell? ⟨g, 3, none⟩ = some (.string xs) := q5.cell 3
      replace own5 := Lib.hid own5
      clear k5 r4 b34 SG own q5 hw4
      by_cases hk : xk = 2
      · have hk2 : (xk == 2) = true := by rw [hk]; rfl
        have htx := Lib.hid (hcase.out.1 hk)
        clear hk hcase
        go_upto_region 6 with (fail)
        refine wp_region_list ?_
        refine wpList_plain rfl (fun K hK => ?_)
        go_simp
        refine hK _ _ ?_
        clear hK K
        refine wpList_plain rfl (fun K hK => ?_)
        go_simp
        refine hK _ _ ?_
        clear hK K
        refine wpList_plain rfl (fun K hK => ?_)
        go_simp
        refine hK _ _ ?_
        clear hK K
        refine wpList_plain rfl (fun K hK => ?_)
        go_simp
        refine (D.out w5 z5.out).mono ?_
        rintro e w6 ⟨rfl, hb6⟩
        refine hK _ _ ?_
        clear hK K
        obtain ⟨dv, hdv⟩ : ∃ dv : ByteArray, dv = ⟨(Lib.itoa xn).toArray⟩ := ⟨_, rfl⟩
        rw [← hdv]
        replace hdv := Lib.hid hdv
        have own6 : OwnR w6 w.heap.size 9 1 oa i oc (tellZV (T.take i)) := OwnR.keeps (S := fun _ => False) own5.out (Keeps.of_below hb6) (fun _ _ h => h)
        have z6 := btrans z5.out hb6
        clear hb6 c0 c1 c3 own5 z5 D
        refine wpList_plain rfl (fun K hK => ?_)
        go_simp
        refine hK _ _ ?_
        clear hK K
        obtain ⟨w7, hw7⟩ : ∃ w7, w7 = w6.alloc (.cells #[.string dv] 9) := ⟨_, rfl⟩
        obtain ⟨g7, hg7⟩ : ∃ g7, g7 = w6.heap.size := ⟨_, rfl⟩
        have r7 : RowAt w7 g7 9 [.string dv] := by rw [hw7]; exact RowAt.new #[.string dv] hg7
        have b67 : Below w6.heap.size w6 w7 := by rw [hw7]; exact balloc (Below.refl _ _) _
        rw [← hw7, ← hg7]
        have own7 : OwnR w7 w.heap.size 9 1 oa i oc (tellZV (T.take i)) := OwnR.keeps (S := fun _ => False) own6 (Keeps.of_below b67) (fun _ _ h => h)
        have z7 := Lib.hid (btrans z6 b67)
        replace hw7 := Lib.hid hw7
        replace hg7 := Lib.hid hg7
        refine wp_appR rfl (.tmp 15) (.tmp 19) 50 9 (.string ⟨#[]⟩) 1 16 rfl Tryd.underlying50 infoStr3 rfl (by decide) w.heap.size oa i oc (tellZV (T.take i)) rfl own7 g7 1 [.string dv] rfl rfl (fun j u hj => by
          have := r7.cell j
          rw [hj] at this
          rw [add_off, Nat.zero_add]
          exact this) (fun v hv => by rw [List.mem_singleton] at hv; subst hv; rfl) (by have := hT.out; have := hlT.out; unfold maxLen; omega) (by have := hT.out; have := hlT.out; omega) z7.out.size ?_
        intro oa8 oc8 w8 own8 hg8 _
        have z8 := Lib.hid (bgrown z7.out hg8 (fun k hk => (OwnR.lt own7 hk).1))
        have own9 : Hid (OwnR w8 w.heap.size 9 1 oa8 (i + 1) oc8 (tellZV (T.take (i + 1)))) := by
          rw [hsn.out]
          rw [show dv = (⟨tx.toArray⟩ : ByteArray) from by rw [htx.out, hdv.out]] at own8
          exact own8
        clear r7 b67 own7 z7 hg8 own8
        refine wpList_plain rfl (fun K hK => ?_)
        go_simp
        refine hK _ _ ?_
        clear hK K
        refine wpList_nil ?_
        go_wp2
        go_roundw
        case rel => exact ⟨i + 1, oa8, oc8, rfl, rfl, by omega, own9, z8⟩
        case measure => simp [intOf]; omega
      · have hk2 : (xk == 2) = false := by rw [beq_eq_false_iff_ne]; omega
        have htx := Lib.hid (hcase.out.2 hk)
        clear hk hcase D
        go_upto_region 7 with (fail)
        refine wp_region_list ?_
        refine wpList_plain rfl (fun K hK => ?_)
        go_simp
        refine hK _ _ ?_
        clear hK K
        refine wpList_plain rfl (fun K hK => ?_)
        go_simp
        refine hK _ _ ?_
        clear hK K
        refine wpList_plain rfl (fun K hK => ?_)
        go_simp
        refine hK _ _ ?_
        clear hK K
        refine wpList_plain rfl (fun K hK => ?_)
        go_simp
        refine hK _ _ ?_
        clear hK K
        obtain ⟨w7, hw7⟩ : ∃ w7, w7 = w5.alloc (.cells #[.string xs] 9) := ⟨_, rfl⟩
        obtain ⟨g7, hg7⟩ : ∃ g7, g7 = w5.heap.size := ⟨_, rfl⟩
        have r7 : RowAt w7 g7 9 [.string xs] := by rw [hw7]; exact RowAt.new #[.string xs] hg7
        have b67 : Below w5.heap.size w5 w7 := by rw [hw7]; exact balloc (Below.refl _ _) _
        rw [← hw7, ← hg7]
        have own7 : OwnR w7 w.heap.size 9 1 oa i oc (tellZV (T.take i)) := OwnR.keeps (S := fun _ => False) own5.out (Keeps.of_below b67) (fun _ _ h => h)
        have z7 := Lib.hid (btrans z5.out b67)
        replace hw7 := Lib.hid hw7
        replace hg7 := Lib.hid hg7
        refine wp_appR rfl (.tmp 21) (.tmp 24) 50 9 (.string ⟨#[]⟩) 1 16 rfl Tryd.underlying50 infoStr3 rfl (by decide) w.heap.size oa i oc (tellZV (T.take i)) rfl own7 g7 1 [.string xs] rfl rfl (fun j u hj => by
          have := r7.cell j
          rw [hj] at this
          rw [add_off, Nat.zero_add]
          exact this) (fun v hv => by rw [List.mem_singleton] at hv; subst hv; rfl) (by have := hT.out; have := hlT.out; unfold maxLen; omega) (by have := hT.out; have := hlT.out; omega) z7.out.size ?_
        intro oa8 oc8 w8 own8 hg8 _
        have z8 := Lib.hid (bgrown z7.out hg8 (fun k hk => (OwnR.lt own7 hk).1))
        have own9 : Hid (OwnR w8 w.heap.size 9 1 oa8 (i + 1) oc8 (tellZV (T.take (i + 1)))) := by
          rw [hsn.out]
          rw [show xs = (⟨tx.toArray⟩ : ByteArray) from by rw [htx.out, hxs.out]] at own8
          exact own8
        clear r7 b67 own7 z7 hg8 own8
        refine wpList_plain rfl (fun K hK => ?_)
        go_simp
        refine hK _ _ ?_
        clear hK K
        refine wpList_nil ?_
        go_wp2
        go_roundw
        case rel => exact ⟨i + 1, oa8, oc8, rfl, rfl, by omega, own9, z8⟩
        case measure => simp [intOf]; omega
    · obtain rfl : i = nt := by omega
      have hlI : ¬ (i : Int) < (i : Int) := by omega
      have hall : Hid (T.take i = T) := List.take_of_length_le (by have := hnt.out; omega)
      rw [hall.out] at own
      have JN : Calls Tryd.prog 26 #[.slice oa i oc, .string ⟨#[32]⟩] wr fun e w' => e = .returned (.string res) ∧ Below wr.heap.size wr w' := by
        by_cases h0 : 0 < i
        · obtain ⟨g, e, _, hgl⟩ := OwnR.addr own.out h0
          subst e
          have hl : i = (T.map (fun t => (⟨(tellZ t).toArray⟩ : ByteArray))).length := by rw [List.length_map]; exact hnt.out
          have hm : (T.map (fun t => (⟨(tellZ t).toArray⟩ : ByteArray))).map (·.data.toList) = T.map tellZ := by rw [List.map_map]; rfl
          have h := Any.strings_Join Tryd.laysJoin Tryd.extraJoin g 0 oc (T.map (fun t => (⟨(tellZ t).toArray⟩ : ByteArray))) ⟨#[32]⟩ wr (fun j x hx => by
            rw [Nat.zero_add, OwnR.cell own.out j (by have := (List.getElem?_eq_some_iff.1 hx).1; omega)]
            simp only [tellZV, List.getElem?_map] at hx ⊢
            cases hT9 : T[j]? with
            | none => rw [hT9] at hx; cases hx
            | some y => rw [hT9] at hx; cases hx; rfl) hgl (by have := hT.out; have := hnt.out; omega) (by rw [← hl]; exact (OwnR.caps own.out).1) (by
            rw [hm]
            show (Lib.join (T.map tellZ) [32]).length ≤ _
            rw [join_lib]
            have := hj.out
            omega)
          rw [← hl, hm] at h
          have h9 : Lib.join (T.map tellZ) (⟨#[32]⟩ : ByteArray).data.toList = joinT (T.map tellZ) := join_lib _
          rw [h9, ← hres.out] at h
          exact h
        · obtain rfl : i = 0 := by omega
          have he : res = ⟨#[]⟩ := by
            have : T = [] := List.length_eq_zero_iff.1 hnt.out.symm
            rw [hres.out, this]
            rfl
          rw [he]
          exact (Any.strings_Join_none Tryd.laysJoin Tryd.extraJoin oa oc ⟨#[32]⟩ wr).mono fun e w' ⟨h1, h2⟩ => ⟨h1, by rw [h2]; exact Below.refl _ _⟩
      replace JN := Lib.hid JN
      clear own hall
      go_wp2_with fail
      refine JN.out.mono ?_
      rintro e w9 ⟨rfl, hb9⟩
      go_wp2
      go_ret
      exact ⟨rfl, btrans zr.out hb9⟩
end Go.Proofs.YtahcgbaaimmkfaaDoor
