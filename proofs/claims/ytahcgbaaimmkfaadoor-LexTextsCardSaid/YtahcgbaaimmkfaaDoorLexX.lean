/- The text of tokens, walked. Conditions: what the listed variables hold; not too many bytes. -/
import Derived.Test.YtahcgbaaimmkfaaDoorLexM
import Derived.Shelf.Strings.OnBuilder
namespace Go.Proofs.YtahcgbaaimmkfaaDoor
open Go.Shelf Go.RowKit
set_option linter.unusedVariables false

shelf_lay Lays.n156 Nm 156 at Tryd as Tryd.laysJoin
theorem Tryd.extraJoin : Builder.Extra Tryd.prog Tryd.laysJoin_ren where
  sizeBuilder := by kernel_rfl
  liesBuilder := by kernel_rfl
  t5 := Tryd.underlying5
  a5 := Tryd.isAgg5
  z5 := Tryd.sizeOf5
  v5 := Tryd.zeroValue5
  infoByte := by kernel_rfl
  cellsByte := by kernel_rfl
  sizeByte := by kernel_rfl
  neB5 := by decide
theorem join_lib : ∀ T : List (List UInt8), Lib.join T [32] = joinT T
  | [] => rfl
  | [t] => by simp [Lib.join, joinT, List.intercalate]
  | t :: u :: r => by
    have ih := join_lib (u :: r)
    unfold Lib.join at ih ⊢
    rw [joinT, ← ih]
    simp [List.intercalate, List.intersperse]
/-- tokens that lie somewhere -/
def TokAt (w : World) (a : Option Addr) (T : List Tk) : Prop := 0 < T.length → ∃ b o, a = some ⟨b, o, none⟩ ∧ b < w.heap.size ∧ ∀ i (hi : i < T.length), w.rangeAt b (o + i * 4) (tkV T[i].kind T[i].n T[i].at_ ⟨T[i].text.toArray⟩)
theorem TokAt.below {w w' : World} {a : Option Addr} {T : List Tk} (h : TokAt w a T) (hb : Below w.heap.size w w') : TokAt w' a T := fun h0 => by
  obtain ⟨b, o, h1, h2, h3⟩ := h h0
  refine ⟨b, o, h1, Nat.lt_of_lt_of_le h2 hb.size, fun i hi j v hj => ?_⟩
  rw [hb.cell h2]
  exact h3 i hi j v hj
theorem tcells_at : ∀ (T : List Tk) (i : Nat) (hi : i < T.length) (j : Nat) (v : Value), (tkV T[i].kind T[i].n T[i].at_ ⟨T[i].text.toArray⟩)[j]? = some v → (tcells T)[i * 4 + j]? = some v
  | t :: T, 0, hi, j, v, h => by
    change (tkV t.kind t.n t.at_ ⟨t.text.toArray⟩)[j]? = some v at h
    have hj := (List.getElem?_eq_some_iff.1 h).1
    show (tkV t.kind t.n t.at_ ⟨t.text.toArray⟩ ++ tcells T)[0 * 4 + j]? = some v
    rw [Nat.zero_mul, Nat.zero_add, List.getElem?_append_left hj]
    exact h
  | t :: T, i + 1, hi, j, v, h => by
    have ih := tcells_at T i (by simpa using hi) j v h
    show (tkV t.kind t.n t.at_ ⟨t.text.toArray⟩ ++ tcells T)[(i + 1) * 4 + j]? = some v
    have hl : (tkV t.kind t.n t.at_ ⟨t.text.toArray⟩).length = 4 := rfl
    rw [List.getElem?_append_right (by rw [hl]; omega), hl, show (i + 1) * 4 + j - 4 = i * 4 + j by omega]
    exact ih
theorem TokAt.of_own {w : World} {base : Nat} {a : Option Addr} {c : Nat} {T : List Tk} (h : OwnT w base a T.length c T) : TokAt w a T := fun h0 => by
  obtain ⟨g, e, _, hl⟩ := OwnR.addr h h0
  subst e
  refine ⟨g, 0, rfl, hl, fun i hi j v hj => ?_⟩
  have hj4 : j < 4 := (List.getElem?_eq_some_iff.1 hj).1
  rw [Nat.zero_add, OwnR.cell h (i * 4 + j) (by omega)]
  exact tcells_at T i hi j v hj
/-- a token's text as Text tells it -/
def tellT (t : Tk) : List UInt8 := if t.kind = 2 then Lib.itoa t.n else t.text
def tellV (T : List Tk) : List Value := T.map (fun t => .string ⟨(tellT t).toArray⟩)
theorem infoStr3 : (Tryd.prog.info? 9).map (fun i => (i.zero, i.size, i.bytes)) = some (some (.string ⟨#[]⟩), 1, 16) := by kernel_rfl
set_option maxRecDepth 8000 in
set_option maxHeartbeats 8000000 in
theorem text_any (w : World) (hd : Door w) (a : Option Addr) (c : Nat) (T : List Tk) (ht : TokAt w a T) (hT : T.length ≤ 6000) (hn : ∀ t ∈ T, -9223372036854775808 ≤ t.n ∧ t.n ≤ 9223372036854775807) (hj : (joinT (T.map tellT)).length ≤ 1000000000) :
    Calls Tryd.prog 14 #[.slice a T.length c] w fun e w' => e = .returned (.string ⟨(joinT (T.map tellT)).toArray⟩) ∧ Below w.heap.size w w' := by
  obtain ⟨res, hres⟩ : ∃ res : ByteArray, res = ⟨(joinT (T.map tellT)).toArray⟩ := ⟨_, rfl⟩
  rw [← hres]
  obtain ⟨nt, hnt⟩ : ∃ nt, nt = T.length := ⟨_, rfl⟩
  rw [← hnt]
  replace hres := Lib.hid hres
  replace hj := Lib.hid hj
  have hntI : (nt : Int) ≤ 6000 := by omega
  replace hnt := Lib.hid hnt
  replace hd := Lib.hid hd
  replace ht := Lib.hid ht
  replace hn := Lib.hid hn
  replace hT := Lib.hid hT
  have hb0 : Hid (Below w.heap.size w w) := Below.refl _ _
  have O0 : Hid (OwnR w w.heap.size 9 1 none 0 0 (tellV (T.take 0))) := OwnR.nil _ _ _ _
  go_enter Tryd.func14, Tryd.ntmps14
  go_wp2
  go_loopw [3, 8] (fun ov iv wr => ∃ (i : Nat) (oa : Option Addr) (oc : Nat), ov = .slice oa i oc ∧ iv = .int .i64 (i : Int) ∧ i ≤ nt ∧ Hid (OwnR wr w.heap.size 9 1 oa i oc (tellV (T.take i))) ∧ Hid (Below w.heap.size w wr)) (fun _ iv _ => nt - (intOf iv).toNat)
  case atStart => exact ⟨0, none, 0, rfl, rfl, Nat.zero_le _, O0, hb0⟩
  case round =>
    obtain ⟨i, oa, oc, rfl, rfl, hi, own, zr⟩ := hrel
    clear O0 hb0
    by_cases hl : i < nt
    · have hlI : (i : Int) < (nt : Int) := by omega
      have hlT : Hid (i < T.length) := by show _ < _; have := hnt.out; omega
      obtain ⟨b, o, ea, hbl, hcell⟩ := (ht.out.below zr.out) (by have := hlT.out; omega)
      have SG := Lib.hid (hcell i hlT.out)
      obtain ⟨x, hx⟩ : ∃ x, x = T[i]'hlT.out := ⟨_, rfl⟩
      rw [← hx] at SG
      have hnx : -9223372036854775808 ≤ x.n ∧ x.n ≤ 9223372036854775807 := by rw [hx]; exact hn.out _ (List.getElem_mem hlT.out)
      have hsn : Hid (tellV (T.take (i + 1)) = tellV (T.take i) ++ [.string ⟨(tellT x).toArray⟩]) := by
        show _ = _
        rw [List.take_succ_eq_append_getElem hlT.out, hx]
        unfold tellV
        rw [List.map_append]
        rfl
      have D := Lib.hid (fun v (hb : Below w.heap.size w v) => decimal_any v (hd.out.below hb) x.n hnx.1 hnx.2)
      subst ea
      clear hx hcell hnx
      obtain ⟨xk, xn, xa, xt⟩ := x
      dsimp only at SG D
      have hcase : Hid ((xk = 2 → tellT ⟨xk, xn, xa, xt⟩ = Lib.itoa xn) ∧ (xk ≠ 2 → tellT ⟨xk, xn, xa, xt⟩ = xt)) := ⟨fun h => if_pos h, fun h => if_neg h⟩
      generalize tellT ⟨xk, xn, xa, xt⟩ = tx at hsn hcase
      obtain ⟨xs, hxs⟩ : ∃ xs : ByteArray, xs = ⟨xt.toArray⟩ := ⟨_, rfl⟩
      rw [← hxs] at SG
      replace hxs := Lib.hid hxs
      go_upto_region 4 with (fail)
      refine wp_region_list ?_
      refine wpList_plain rfl (fun K hK => ?_)
      go_simp
      refine hK _ _ ?_
      clear hK K
      refine wpList_load_mid rfl 39 (.tmp 10) rfl b (o + i * 4) rfl (tkV xk xn xa xs) _ SG.out undTok.choose_spec.1 undTok.choose_spec.2 (by kernel_rfl) ?_
      refine wpList_plain rfl (fun K hK => ?_)
      go_simp
      refine hK _ _ ?_
      clear hK K
      obtain ⟨w4, hw4⟩ : ∃ w4, w4 = wr.alloc (.cells #[.int .i64 0, .int .i64 0, .int .i64 0, .string ⟨#[]⟩] TTok) := ⟨_, rfl⟩
      obtain ⟨g, hg⟩ : ∃ g, g = wr.heap.size := ⟨_, rfl⟩
      have r4 : RowAt w4 g TTok (tkV 0 0 0 ⟨#[]⟩) := by rw [hw4]; exact RowAt.new #[.int .i64 0, .int .i64 0, .int .i64 0, .string ⟨#[]⟩] hg
      have b34 : Below wr.heap.size wr w4 := by rw [hw4]; exact balloc (Below.refl _ _) _
      rw [← hw4, ← hg]
      replace hw4 := Lib.hid hw4
      replace hg := Lib.hid hg
      refine list_store (l := tkV xk xn xa xs) infoTok r4 rfl rfl (tkV_one _ _ _ _) rfl 5 11 rfl rfl rfl ?_
      intro w5 q5 k5
      refine wpList_nil ?_
      have own5 : OwnR w5 w.heap.size 9 1 oa i oc (tellV (T.take i)) := OwnR.keeps (OwnR.keeps own.out (Keeps.of_below (S := fun _ => False) b34) (fun _ _ h => h)) k5 (fun j hj e => by
        have h1 := (OwnR.lt own.out hj).2
        have h3 := hg.out
        omega)
      have z5 := Lib.hid (k5.below (btrans zr.out b34) (fun j hj => by cases hj; rw [hg.out]; exact zr.out.size))
      have c0 : w5.cell? ⟨g, 0, none⟩ = some (.int .i64 (xk : Int)) := q5.cell 0
      have c1 : w5.cell? ⟨g, 1, none⟩ = some (.int .i64 xn) := q5.cell 1
      have c3 : w5.cell? ⟨g, 3, none⟩ = some (.string xs) := q5.cell 3
      replace own5 := Lib.hid own5
      clear k5 r4 b34 SG own q5 hw4
      by_cases hk : xk = 2
      · have hk2 : ((xk : Int) == 2) = true := by rw [hk]; rfl
        have htx := Lib.hid (hcase.out.1 hk)
        clear hk hcase
        go_upto_region 6 with (fail)
        refine wp_region_list ?_
        refine wpList_plain rfl (fun K hK => ?_)
        go_simp
        refine hK _ _ ?_
        clear hK K
        refine wpList_plain rfl (fun K hK => ?_)
        go_simp
        refine hK _ _ ?_
        clear hK K
        refine wpList_plain rfl (fun K hK => ?_)
        go_simp
        refine hK _ _ ?_
        clear hK K
        refine wpList_plain rfl (fun K hK => ?_)
        go_simp
        refine (D.out w5 z5.out).mono ?_
        rintro e w6 ⟨rfl, hb6⟩
        refine hK _ _ ?_
        clear hK K
        obtain ⟨dv, hdv⟩ : ∃ dv : ByteArray, dv = ⟨(Lib.itoa xn).toArray⟩ := ⟨_, rfl⟩
        rw [← hdv]
        replace hdv := Lib.hid hdv
        have own6 : OwnR w6 w.heap.size 9 1 oa i oc (tellV (T.take i)) := OwnR.keeps (S := fun _ => False) own5.out (Keeps.of_below hb6) (fun _ _ h => h)
        have z6 := btrans z5.out hb6
        clear hb6 c0 c1 c3 own5 z5 D
        refine wpList_plain rfl (fun K hK => ?_)
        go_simp
        refine hK _ _ ?_
        clear hK K
        obtain ⟨w7, hw7⟩ : ∃ w7, w7 = w6.alloc (.cells #[.string dv] 9) := ⟨_, rfl⟩
        obtain ⟨g7, hg7⟩ : ∃ g7, g7 = w6.heap.size := ⟨_, rfl⟩
        have r7 : RowAt w7 g7 9 [.string dv] := by rw [hw7]; exact RowAt.new #[.string dv] hg7
        have b67 : Below w6.heap.size w6 w7 := by rw [hw7]; exact balloc (Below.refl _ _) _
        rw [← hw7, ← hg7]
        have own7 : OwnR w7 w.heap.size 9 1 oa i oc (tellV (T.take i)) := OwnR.keeps (S := fun _ => False) own6 (Keeps.of_below b67) (fun _ _ h => h)
        have z7 := Lib.hid (btrans z6 b67)
        replace hw7 := Lib.hid hw7
        replace hg7 := Lib.hid hg7
        refine wp_appR rfl (.tmp 15) (.tmp 19) 50 9 (.string ⟨#[]⟩) 1 16 rfl Tryd.underlying50 infoStr3 rfl (by decide) w.heap.size oa i oc (tellV (T.take i)) rfl own7 g7 1 [.string dv] rfl rfl (fun j u hj => by
          have := r7.cell j
          rw [hj] at this
          rw [add_off, Nat.zero_add]
          exact this) (fun v hv => by rw [List.mem_singleton] at hv; subst hv; rfl) (by have := hT.out; have := hlT.out; unfold maxLen; omega) (by have := hT.out; have := hlT.out; omega) z7.out.size ?_
        intro oa8 oc8 w8 own8 hg8 _
        have z8 := Lib.hid (bgrown z7.out hg8 (fun k hk => (OwnR.lt own7 hk).1))
        have own9 : Hid (OwnR w8 w.heap.size 9 1 oa8 (i + 1) oc8 (tellV (T.take (i + 1)))) := by
          rw [hsn.out]
          rw [show dv = (⟨tx.toArray⟩ : ByteArray) from by rw [htx.out, hdv.out]] at own8
          exact own8
        clear r7 b67 own7 z7 hg8 own8
        refine wpList_plain rfl (fun K hK => ?_)
        go_simp
        refine hK _ _ ?_
        clear hK K
        refine wpList_nil ?_
        go_wp2
        go_roundw
        case rel => exact ⟨i + 1, oa8, oc8, rfl, rfl, by omega, own9, z8⟩
        case measure => simp [intOf]; omega
      · have hk2 : ((xk : Int) == 2) = false := by rw [beq_eq_false_iff_ne]; omega
        have htx := Lib.hid (hcase.out.2 hk)
        clear hk hcase D
        go_upto_region 7 with (fail)
        refine wp_region_list ?_
        refine wpList_plain rfl (fun K hK => ?_)
        go_simp
        refine hK _ _ ?_
        clear hK K
        refine wpList_plain rfl (fun K hK => ?_)
        go_simp
        refine hK _ _ ?_
        clear hK K
        refine wpList_plain rfl (fun K hK => ?_)
        go_simp
        refine hK _ _ ?_
        clear hK K
        refine wpList_plain rfl (fun K hK => ?_)
        go_simp
        refine hK _ _ ?_
        clear hK K
        obtain ⟨w7, hw7⟩ : ∃ w7, w7 = w5.alloc (.cells #[.string xs] 9) := ⟨_, rfl⟩
        obtain ⟨g7, hg7⟩ : ∃ g7, g7 = w5.heap.size := ⟨_, rfl⟩
        have r7 : RowAt w7 g7 9 [.string xs] := by rw [hw7]; exact RowAt.new #[.string xs] hg7
        have b67 : Below w5.heap.size w5 w7 := by rw [hw7]; exact balloc (Below.refl _ _) _
        rw [← hw7, ← hg7]
        have own7 : OwnR w7 w.heap.size 9 1 oa i oc (tellV (T.take i)) := OwnR.keeps (S := fun _ => False) own5.out (Keeps.of_below b67) (fun _ _ h => h)
        have z7 := Lib.hid (btrans z5.out b67)
        replace hw7 := Lib.hid hw7
        replace hg7 := Lib.hid hg7
        refine wp_appR rfl (.tmp 21) (.tmp 24) 50 9 (.string ⟨#[]⟩) 1 16 rfl Tryd.underlying50 infoStr3 rfl (by decide) w.heap.size oa i oc (tellV (T.take i)) rfl own7 g7 1 [.string xs] rfl rfl (fun j u hj => by
          have := r7.cell j
          rw [hj] at this
          rw [add_off, Nat.zero_add]
          exact this) (fun v hv => by rw [List.mem_singleton] at hv; subst hv; rfl) (by have := hT.out; have := hlT.out; unfold maxLen; omega) (by have := hT.out; have := hlT.out; omega) z7.out.size ?_
        intro oa8 oc8 w8 own8 hg8 _
        have z8 := Lib.hid (bgrown z7.out hg8 (fun k hk => (OwnR.lt own7 hk).1))
        have own9 : Hid (OwnR w8 w.heap.size 9 1 oa8 (i + 1) oc8 (tellV (T.take (i + 1)))) := by
          rw [hsn.out]
          rw [show xs = (⟨tx.toArray⟩ : ByteArray) from by rw [htx.out, hxs.out]] at own8
          exact own8
        clear r7 b67 own7 z7 hg8 own8
        refine wpList_plain rfl (fun K hK => ?_)
        go_simp
        refine hK _ _ ?_
        clear hK K
        refine wpList_nil ?_
        go_wp2
        go_roundw
        case rel => exact ⟨i + 1, oa8, oc8, rfl, rfl, by omega, own9, z8⟩
        case measure => simp [intOf]; omega
    · obtain rfl : i = nt := by omega
      have hlI : ¬ (i : Int) < (i : Int) := by omega
      have hall : Hid (T.take i = T) := List.take_of_length_le (by have := hnt.out; omega)
      rw [hall.out] at own
      have JN : Calls Tryd.prog 26 #[.slice oa i oc, .string ⟨#[32]⟩] wr fun e w' => e = .returned (.string res) ∧ Below wr.heap.size wr w' := by
        by_cases h0 : 0 < i
        · obtain ⟨g, e, _, hgl⟩ := OwnR.addr own.out h0
          subst e
          have hl : i = (T.map (fun t => (⟨(tellT t).toArray⟩ : ByteArray))).length := by rw [List.length_map]; exact hnt.out
          have hm : (T.map (fun t => (⟨(tellT t).toArray⟩ : ByteArray))).map (·.data.toList) = T.map tellT := by rw [List.map_map]; rfl
          have h := Any.strings_Join Tryd.laysJoin Tryd.extraJoin g 0 oc (T.map (fun t => (⟨(tellT t).toArray⟩ : ByteArray))) ⟨#[32]⟩ wr (fun j x hx => by
            rw [Nat.zero_add, OwnR.cell own.out j (by have := (List.getElem?_eq_some_iff.1 hx).1; omega)]
            simp only [tellV, List.getElem?_map] at hx ⊢
            cases hT9 : T[j]? with
            | none => rw [hT9] at hx; cases hx
            | some y => rw [hT9] at hx; cases hx; rfl) hgl (by have := hT.out; have := hnt.out; omega) (by rw [← hl]; exact (OwnR.caps own.out).1) (by
            rw [hm]
            show (Lib.join (T.map tellT) [32]).length ≤ _
            rw [join_lib]
            have := hj.out
            omega)
          rw [← hl, hm] at h
          have h9 : Lib.join (T.map tellT) (⟨#[32]⟩ : ByteArray).data.toList = joinT (T.map tellT) := join_lib _
          rw [h9, ← hres.out] at h
          exact h
        · obtain rfl : i = 0 := by omega
          have he : res = ⟨#[]⟩ := by
            have : T = [] := List.length_eq_zero_iff.1 hnt.out.symm
            rw [hres.out, this]
            rfl
          rw [he]
          exact (Any.strings_Join_none Tryd.laysJoin Tryd.extraJoin oa oc ⟨#[32]⟩ wr).mono fun e w' ⟨h1, h2⟩ => ⟨h1, by rw [h2]; exact Below.refl _ _⟩
      replace JN := Lib.hid JN
      clear own hall
      go_wp2_with fail
      refine JN.out.mono ?_
      rintro e w9 ⟨rfl, hb9⟩
      go_wp2
      go_ret
      exact ⟨rfl, btrans zr.out hb9⟩
end Go.Proofs.YtahcgbaaimmkfaaDoor
