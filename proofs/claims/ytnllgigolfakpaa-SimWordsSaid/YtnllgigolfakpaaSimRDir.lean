/- The walk of the document's Direct. Conditions: the bounds that an argument brings along. -/
import Derived.Test.YtnllgigolfakpaaSimRPlain
import Derived.Test.YtnllgigolfakpaaSimDirSt
import Derived.Test.YtnllgigolfakpaaAutoChk3
import Derived.WalkMore
namespace Go.Proofs.Ytnllgigolfakpaa
open Go.RowKit

set_option maxRecDepth 10000 in
set_option maxHeartbeats 4000000 in
theorem rdirect_any (W : World) (ai an : Option Addr) (ci cn : Nat) (A : AU) (h : AuAt W ai A.init.length an A.nodes.length A) (ok : AuOk A) :
    Calls Try.prog 12 #[.agg #[.int .i64 A.sets, .slice ai A.init.length ci, .slice an A.nodes.length cn]] W (GivesDir W A) := by
  have hb0 : Below W.heap.size W (W.alloc (.cells #[.int .i64 A.sets, .slice ai A.init.length ci, .slice an A.nodes.length cn] AUT)) := balloc (Below.refl _ _) _
  have r1 := Lib.hid (RowAt.new (w := W) (T := AUT) #[.int .i64 A.sets, .slice ai A.init.length ci, .slice an A.nodes.length cn] rfl)
  have CK := rcheck_any _ ai an ci cn A (h.below hb0) ok
  by_cases hc : chk A ≠ 0
  · have hcb : (chk A != 0) = true := by simpa using hc
    have hD : Hid (DirOf A []) := .inl ⟨hc, rfl⟩
    generalize chk A = why at hcb CK
    replace CK := Lib.hid CK
    clear hc h ok
    go_enter Try.func12, Try.ntmps12
    go_wp2_with fail
    refine CK.out.mono ?_
    rintro e w1 ⟨rfl, hb1⟩
    go_wp2
    go_ret
    exact ⟨none, 0, [], rfl, hD.out, RowsAt.nil _ _, btrans hb0 hb1⟩
  have hc : chk A = 0 := by simpa using hc
  have hn := (chk_good hc).1
  rw [hc] at CK
  have HN := h.nodes
  have hD : Hid (∀ L, Square A.nodes.length L → Above A (fnOf L) → (∀ i k, i < A.nodes.length → k < A.nodes.length → stepR A (fnOf L) i k = fnOf L i k) → DirOf A L) := fun L hs ha he => .inr ⟨hc, fnOf L, stepR_end ha he, (mat_fn hs).symm⟩
  have hab0 : Hid (Above A (fnOf (rowsT (fun _ _ => true) A.nodes.length A.nodes.length))) := fun S hS i k hi hk hs => by
    rw [rowsT_mat, fn_mat hi hk]
  have hstep : Hid (∀ L, Square A.nodes.length L → Above A (fnOf L) → Above A (fnOf (rowsT (stepR A (fnOf L)) A.nodes.length A.nodes.length))) := fun L hs ha =>
    (stepR_above hc ha).congr (fun i k hi hk => by rw [rowsT_mat, fn_mat hi hk])
  have CANw := Lib.hid (fun w' (hb : Below W.heap.size W w') ar cr L hL hr i k hi hk => rcan_any w' ai an A.init.length ci cn A (HN.below hb) ok hc ar cr L hL hr i k hi hk)
  obtain ⟨n, hnE⟩ : ∃ n, n = A.nodes.length := ⟨_, rfl⟩
  have CAN : Hid (∀ w' (_ : Below W.heap.size W w') ar cr L (_ : Square n L) (_ : RowsAt w' ar L) (i k : Nat) (_ : i < n) (_ : k < n), Calls Try.prog 25 #[.agg #[.int .i64 A.sets, .slice ai A.init.length ci, .slice an n cn], .slice ar n cr, .int .i64 (i : Int), .int .i64 (k : Int)] w' fun e w'' => e = .returned (.bool (aloB (sN A) (nd A i) (nd A k) && folB (fnOf L) (nd A i) (nd A k))) ∧ Below w'.heap.size w' w'') := by
    rw [hnE]
    exact CANw.out
  rw [← hnE] at r1 CK hn hD hab0 hstep hb0 ⊢
  replace hnE := Lib.hid hnE
  replace CK := Lib.hid CK
  replace hb0 := Lib.hid hb0
  clear h ok CANw HN hc
  have hn2 : (n : Int) ≤ 256 := by omega
  go_enter Try.func12, Try.ntmps12
  go_wp2_with fail
  refine CK.out.mono ?_
  rintro e w1 ⟨rfl, hb1⟩
  have hbw := btrans hb0.out hb1
  have s1 := r1.out.below hb1
  have f2 : w1.cell? ⟨W.heap.size, 2, none⟩ = some (.slice an n cn) := s1.cell 2
  replace hbw := Lib.hid hbw
  replace s1 := Lib.hid s1
  clear CK hb1 r1 hb0
  go_wp2
  go_loopw [4, 5] (fun rv iv wr => ∃ (i : Nat) (a : Option Addr) (c : Nat) (cells : List Value), i ≤ n ∧ iv = .int .i64 i ∧ rv = .slice a i c ∧ Hid (RowsSt w1 wr (rowsT (fun _ _ => true) n i) a c cells)) (fun _ iv _ => n - (intOf iv).toNat)
  case atStart => exact ⟨0, none, 0, [], Nat.zero_le _, rfl, rfl, RowsSt.nil _⟩
  case round =>
    obtain ⟨i, a, c, cells, hi, rfl, rfl, st⟩ := hrel
    by_cases hin : i < n
    · have hin2 : (i : Int) < (n : Int) := by omega
      go_wp2
      obtain ⟨wo, hwo⟩ : ∃ wo, wo = wr := ⟨_, rfl⟩
      subst hwo
      go_loopw [6, 7] (fun rv kv wr => ∃ (k : Nat) (ar : Option Addr) (cr : Nat), k ≤ n ∧ kv = .int .i64 k ∧ rv = .slice ar k cr ∧ Hid (OwnR wr wo.heap.size TB 1 ar k cr ((rowT (fun _ _ => true) i k).map .bool)) ∧ Hid (Below wo.heap.size wo wr)) (fun _ kv _ => n - (intOf kv).toNat)
      case atStart => exact ⟨0, none, 0, Nat.zero_le _, rfl, rfl, OwnR.nil _ _ _ _, Below.refl _ _⟩
      case round =>
        obtain ⟨k, ar, cr, hk, rfl, rfl, ow, lo⟩ := hrel
        by_cases hkn : k < n
        · have hkn2 : (k : Int) < (n : Int) := by omega
          have OW := Lib.hid (ow.out.alloc (.cells #[.bool true] TB))
          have NC := Lib.hid (new_cells wr #[.bool true] TB rfl)
          have OC : Hid (∀ u ∈ [Value.bool true], u.oneCell' = true) := fun u hu => by simp at hu; subst hu; rfl
          have n5 : Hid (k + 1 ≤ maxLen) := by show _ ≤ _; unfold maxLen; omega
          have y5 : Hid ((k + 1) * 1 ≤ 140737488355328) := by show _ ≤ _; omega
          have x5 : Hid (wo.heap.size ≤ (wr.alloc (.cells #[.bool true] TB)).heap.size) := by show _ ≤ _; have := lo.out.size; simp; omega
          go_wp2_with (at_builtin; refine wp_appR rfl _ _ 32 TB (.bool false) 1 1 rfl Try.underlying32 infoB rfl (by decide) wo.heap.size ar k cr _ rfl OW.out wr.heap.size 1 [.bool true] rfl rfl NC.out OC.out n5.out y5.out x5.out ?_)
          intro ar3 cr3 w3 ho3 hg3 _
          have lo3 := Lib.hid (bgrown (balloc lo.out (.cells #[.bool true] TB)) hg3 (fun j hj => (OwnR.lt ow.out hj).1))
          have ow3 : Hid (OwnR w3 wo.heap.size TB 1 ar3 (k + 1) cr3 ((rowT (fun _ _ => true) i (k + 1)).map .bool)) := by show OwnR _ _ _ _ _ _ _ _; rw [rowT_succ, List.map_append]; exact ho3
          clear OW NC OC n5 y5 x5 ho3 hg3 ow lo
          go_wp2
          go_roundw
          case rel => exact ⟨k + 1, ar3, cr3, by omega, by go_num, rfl, ow3, lo3⟩
          case measure => simp [intOf]; omega
        · obtain rfl : k = n := by omega
          have st2 := Lib.hid (st.out.below lo.out)
          have hli := rowsT_len (fun _ _ => true) k i
          have hlk := rowT_len (fun _ _ => true) i k
          have OW : Hid (OwnR (wr.alloc (.cells #[.slice ar k cr] 32)) w1.heap.size 32 1 a i c cells) := by have := st2.out.own.alloc (.cells #[.slice ar k cr] 32); rwa [hli] at this
          have NC := Lib.hid (new_cells wr #[.slice ar k cr] 32 rfl)
          have OC : Hid (∀ u ∈ [Value.slice ar k cr], u.oneCell' = true) := fun u hu => by simp at hu; subst hu; rfl
          have n5 : Hid (i + 1 ≤ maxLen) := by show _ ≤ _; unfold maxLen; omega
          have y5 : Hid ((i + 1) * 24 ≤ 140737488355328) := by show _ ≤ _; omega
          have x5 : Hid (w1.heap.size ≤ (wr.alloc (.cells #[.slice ar k cr] 32)).heap.size) := by show _ ≤ _; have := st2.out.low.size; simp; omega
          replace hli := Lib.hid hli
          replace hlk := Lib.hid hlk
          go_wp2_with (at_builtin; refine wp_appR rfl _ _ 29 32 (.slice none 0 0) 1 24 rfl Try.underlying29 infoSB rfl (by decide) w1.heap.size a i c cells rfl OW.out wr.heap.size 1 [.slice ar k cr] rfl rfl NC.out OC.out n5.out y5.out x5.out ?_)
          intro a3 c3 w3 ho3 hg3 hat3
          have st3 : Hid (RowsSt w1 w3 (rowsT (fun _ _ => true) k (i + 1)) a3 c3 (cells ++ [.slice ar k cr])) := by
            have ow' := ow.out
            have e : (Value.slice ar k cr) = .slice ar (rowT (fun _ _ => true) i k).length cr := by rw [hlk.out]
            show RowsSt _ _ _ _ _ _
            rw [rowsT_succ, e]
            refine st.out.app (w' := wr) (by rw [hlk.out]; exact ow') lo.out (balloc (Below.refl _ _) (.cells #[.slice ar k cr] 32)) (by rw [hli.out, ← e]; exact ho3) (by rw [hli.out]; exact hg3) ?_
            rw [hli.out]
            rcases hat3 with h1 | h1
            · exact .inl h1
            · exact .inr ⟨_, by simp, h1⟩
          clear OW NC OC n5 y5 x5 ho3 hg3 hat3 st st2 ow lo
          go_wp2
          go_roundw
          case rel => exact ⟨i + 1, a3, c3, _, by omega, by go_num, rfl, st3⟩
          case measure => simp [intOf]; omega
    · obtain rfl : i = n := by omega
      have hsq : Square i (rowsT (fun _ _ => true) i i) := sq_mat _ _
      have st0 : Hid (∃ L, Square i L ∧ Above A (fnOf L) ∧ RowsAt wr a L ∧ Below w1.heap.size w1 wr) := ⟨_, hsq, hab0.out, st.out.rows, st.out.low⟩
      clear st hin hsq hab0 hi
      obtain ⟨L0, hsq0, hab0, hra0, hlo0⟩ := st0.out
      replace hsq0 := Lib.hid hsq0
      replace hab0 := Lib.hid hab0
      replace hra0 := Lib.hid hra0
      replace hlo0 := Lib.hid hlo0
      clear st0
      go_wp2
      go_loopg [2, 4] (cntR i (fnOf L0)) (fun q res rv wr => ∃ (L : List (List Bool)) (a : Option Addr) (c : Nat), res = .slice none 0 0 ∧ rv = .slice a i c ∧ Hid (Square i L) ∧ Hid (Above A (fnOf L)) ∧ Hid (cntR i (fnOf L) ≤ q) ∧ Hid (RowsAt wr a L) ∧ Hid (Below w1.heap.size w1 wr))
      case atStart => exact ⟨L0, a, c, rfl, rfl, hsq0, hab0, Nat.le_refl _, hra0, hlo0⟩
      case round =>
        obtain ⟨L, a, c, rfl, rfl, hsq, hab, hq, hra, hlo⟩ := hrel
        clear hsq0 hab0 hra0 hlo0
        obtain ⟨R, hR⟩ : ∃ R, R = fnOf L := ⟨_, rfl⟩
        have hst := hstep.out L hsq.out hab.out
        have hD2 := hD.out L hsq.out hab.out
        rw [← hR] at hst hD2 hq
        replace hR := Lib.hid hR
        replace hst := Lib.hid hst
        replace hD2 := Lib.hid hD2
        obtain ⟨wo, hwo⟩ : ∃ wo, wo = wr := ⟨_, rfl⟩
        subst hwo
        have hcan : Hid (∀ w' (_ : Below wo.heap.size wo w') (k m : Nat) (_ : k < i) (_ : m < i), Calls Try.prog 25 #[.agg #[.int .i64 A.sets, .slice ai A.init.length ci, .slice an i cn], .slice a i c, .int .i64 (k : Int), .int .i64 (m : Int)] w' fun e w'' => e = .returned (.bool (aloB (sN A) (nd A k) (nd A m) && folB R (nd A k) (nd A m))) ∧ Below w'.heap.size w' w'') := fun w' hb k m hk hm => by
          have := CAN.out w' (btrans (btrans hbw.out hlo.out) hb) a c L hsq.out (hra.out.below hb) k m hk hm
          rw [← hR.out] at this
          exact this
        have hcell : Hid (∀ w' (_ : Below wo.heap.size wo w') (k m : Nat) (_ : k < i) (_ : m < i), ∃ b off ai ci b2 o2, a = some ⟨b, off, none⟩ ∧ w'.cell? ⟨b, off + k, none⟩ = some (.slice ai i ci) ∧ ai = some ⟨b2, o2, none⟩ ∧ w'.cell? ⟨b2, o2 + m, none⟩ = some (.bool (R k m))) := fun w' hb k m hk hm => by
          obtain ⟨b, off, ai, ci, b2, o2, h1, _, h2, h3, _, h4⟩ := hra.out.cellAt hsq.out hk hm
          rw [← hR.out] at h4
          exact ⟨b, off, ai, ci, b2, o2, h1, bcell hb h2, h3, bcell hb h4⟩
        have hrow : Hid (∀ w' (_ : Below wo.heap.size wo w'), w'.cell? ⟨W.heap.size, 0, none⟩ = some (.int .i64 A.sets) ∧ w'.cell? ⟨W.heap.size, 1, none⟩ = some (.slice ai A.init.length ci) ∧ w'.cell? ⟨W.heap.size, 2, none⟩ = some (.slice an i cn)) := fun w' hb => by
          have := (s1.out.below hlo.out).below hb
          exact ⟨this.cell 0, this.cell 1, this.cell 2⟩
        go_wp2
        go_loopw [8, 9, 10] (fun nx ch iv wr => ∃ (j : Nat) (a2 : Option Addr) (c2 : Nat) (cells : List Value) (b : Bool), j ≤ i ∧ iv = .int .i64 j ∧ nx = .slice a2 j c2 ∧ ch = .bool b ∧ Hid (b = chgI A R i j) ∧ Hid (RowsSt wo wr (rowsT (stepR A R) i j) a2 c2 cells)) (fun _ _ iv _ => i - (intOf iv).toNat)
        case atStart => exact ⟨0, none, 0, [], false, Nat.zero_le _, rfl, rfl, rfl, rfl, RowsSt.nil _⟩
        case round =>
          obtain ⟨j, a2, c2, cells, b, hj, rfl, rfl, rfl, hch, st⟩ := hrel
          by_cases hji : j < i
          · have hji2 : (j : Int) < (i : Int) := by omega
            go_wp2
            obtain ⟨wi, hwi⟩ : ∃ wi, wi = wr := ⟨_, rfl⟩
            subst hwi
            go_loopw [9, 11, 12] (fun ch rv kv wr => ∃ (k : Nat) (ar : Option Addr) (cr : Nat) (b : Bool), k ≤ i ∧ kv = .int .i64 k ∧ rv = .slice ar k cr ∧ ch = .bool b ∧ Hid (b = (chgI A R i j || chgK A R j k)) ∧ Hid (OwnR wr wi.heap.size TB 1 ar k cr ((rowT (stepR A R) j k).map .bool)) ∧ Hid (Below wi.heap.size wi wr)) (fun _ _ kv _ => i - (intOf kv).toNat)
            case atStart => exact ⟨0, none, 0, b, Nat.zero_le _, rfl, rfl, rfl, by show _ = _; rw [hch.out]; simp [chgK], OwnR.nil _ _ _ _, Below.refl _ _⟩
            case round =>
              obtain ⟨k, ar, cr, b, hk, rfl, rfl, rfl, hb, ow, lo⟩ := hrel
              clear hch
              by_cases hki : k < i
              · have hki2 : (k : Int) < (i : Int) := by omega
                have hbr := btrans st.out.low lo.out
                obtain ⟨b1, o1, ra, rc, b2, o2, hab1, k1, hab2, k2⟩ := hcell.out wr hbr j k hji hki
                obtain ⟨x0, x1, x2⟩ := hrow.out wr hbr
                have C1 := Lib.hid (hcan.out wr hbr j k hji hki)
                obtain ⟨v, hv⟩ : ∃ v, v = stepR A R j k := ⟨_, rfl⟩
                have hvd : v = (R j k && (aloB (sN A) (nd A j) (nd A k) && folB R (nd A j) (nd A k))) := hv
                obtain ⟨b3, hb3⟩ : ∃ b3, b3 = (b || v != R j k) := ⟨_, rfl⟩
                have hb4 : Hid (b3 = (chgI A R i j || chgK A R j (k + 1))) := by show _ = _; rw [chgK_succ, hb3, hb.out, hv, Bool.or_assoc]
                generalize (aloB (sN A) (nd A j) (nd A k) && folB R (nd A j) (nd A k)) = av at C1 hvd
                generalize hfb : R j k = fb at k2 hvd hb3
                replace hfb := Lib.hid hfb
                have hv' : Hid (v = stepR A R j k) := hv
                clear hv hb
                replace hvd := Lib.hid hvd
                replace hb3 := Lib.hid hb3
                replace hbr := Lib.hid hbr
                subst hab1
                subst hab2
                go_upto_region 23 with (fail)
                go_cut [13] (fun is wx => is = .bool v ∧ Hid (Below wr.heap.size wr wx))
                case first =>
                  cases fb with
                  | false =>
                    have e : v = false := by rw [hvd.out]; rfl
                    subst e
                    clear hvd hb3 hfb hv'
                    go_wp2_with fail
                    go_meet
                    exact ⟨rfl, Below.refl _ _⟩
                  | true =>
                    have e : v = av := by rw [hvd.out]; rfl
                    subst e
                    clear hvd hb3 hfb hv'
                    go_wp2_with fail
                    refine C1.out.mono ?_
                    rintro e w5 ⟨rfl, hb5⟩
                    go_wp2_with fail
                    go_meet
                    exact ⟨rfl, hb5⟩
                case rest =>
                  obtain ⟨rfl, hb5⟩ := hcut
                  have k1' := bcell hb5.out k1
                  have k2' := bcell hb5.out k2
                  have lo5 := Lib.hid (btrans lo.out hb5.out)
                  have ow5 := Lib.hid (OwnR.keeps (S := fun _ => False) ow.out (Keeps.of_below hb5.out) (fun _ _ h => h))
                  clear k1 k2 x0 x1 x2 C1 hvd lo ow hb5 hbr
                  obtain ⟨w5, hw5⟩ : ∃ w5, w5 = wc := ⟨_, rfl⟩
                  subst hw5
                  go_upto_region 24 with (fail)
                  go_cut [9] (fun c wx => c = .bool b3 ∧ wx = w5)
                  case first =>
                    cases b with
                    | true =>
                      have e : b3 = true := by rw [hb3.out]; rfl
                      subst e
                      clear hb3 hfb hv' hb4
                      go_wp2_with fail
                      go_meet
                      exact ⟨rfl, rfl⟩
                    | false =>
                      have e : b3 = (v != fb) := by rw [hb3.out]; rfl
                      subst e
                      clear hb3 hfb hv' hb4
                      cases v <;> cases fb
                      all_goals
                        go_wp2_with fail
                        go_meet
                        exact ⟨rfl, rfl⟩
                  case rest =>
                    obtain ⟨rfl, rfl⟩ := hcut
                    have OW := Lib.hid (ow5.out.alloc (.cells #[.bool v] TB))
                    have NC := Lib.hid (new_cells wc #[.bool v] TB rfl)
                    have OC : Hid (∀ u ∈ [Value.bool v], u.oneCell' = true) := fun u hu => by simp at hu; subst hu; rfl
                    have n5 : Hid (k + 1 ≤ maxLen) := by show _ ≤ _; unfold maxLen; omega
                    have y5 : Hid ((k + 1) * 1 ≤ 140737488355328) := by show _ ≤ _; omega
                    have x5 : Hid (wi.heap.size ≤ (wc.alloc (.cells #[.bool v] TB)).heap.size) := by show _ ≤ _; have := lo5.out.size; simp; omega
                    clear k1' k2' hb3
                    go_wp2_with (at_builtin; refine wp_appR rfl _ _ 32 TB (.bool false) 1 1 rfl Try.underlying32 infoB rfl (by decide) wi.heap.size ar k cr _ rfl OW.out wc.heap.size 1 [.bool v] rfl rfl NC.out OC.out n5.out y5.out x5.out ?_)
                    intro ar3 cr3 w3 ho3 hg3 _
                    have lo3 := Lib.hid (bgrown (balloc lo5.out (.cells #[.bool v] TB)) hg3 (fun j hj => (OwnR.lt ow5.out hj).1))
                    have ow3 : Hid (OwnR w3 wi.heap.size TB 1 ar3 (k + 1) cr3 ((rowT (stepR A R) j (k + 1)).map .bool)) := by show OwnR _ _ _ _ _ _ _ _; rw [rowT_succ, List.map_append, ← hv'.out]; exact ho3
                    clear OW NC OC n5 y5 x5 ho3 hg3 ow5 lo5 hv' hfb
                    go_wp2
                    go_roundw
                    case rel => exact ⟨k + 1, ar3, cr3, b3, by omega, by go_num, rfl, rfl, hb4, ow3, lo3⟩
                    case measure => simp [intOf]; omega
              · obtain rfl : k = i := by omega
                have hch2 : Hid (b = chgI A R k (j + 1)) := by show _ = _; rw [chgI_succ]; exact hb.out
                have st2 := Lib.hid (st.out.below lo.out)
                have hli := rowsT_len (stepR A R) k j
                have hlk := rowT_len (stepR A R) j k
                have OW : Hid (OwnR (wr.alloc (.cells #[.slice ar k cr] 32)) wo.heap.size 32 1 a2 j c2 cells) := by have := st2.out.own.alloc (.cells #[.slice ar k cr] 32); rwa [hli] at this
                have NC := Lib.hid (new_cells wr #[.slice ar k cr] 32 rfl)
                have OC : Hid (∀ u ∈ [Value.slice ar k cr], u.oneCell' = true) := fun u hu => by simp at hu; subst hu; rfl
                have n5 : Hid (j + 1 ≤ maxLen) := by show _ ≤ _; unfold maxLen; omega
                have y5 : Hid ((j + 1) * 24 ≤ 140737488355328) := by show _ ≤ _; omega
                have x5 : Hid (wo.heap.size ≤ (wr.alloc (.cells #[.slice ar k cr] 32)).heap.size) := by show _ ≤ _; have := st2.out.low.size; simp; omega
                replace hli := Lib.hid hli
                replace hlk := Lib.hid hlk
                clear hb
                go_wp2_with (at_builtin; refine wp_appR rfl _ _ 29 32 (.slice none 0 0) 1 24 rfl Try.underlying29 infoSB rfl (by decide) wo.heap.size a2 j c2 cells rfl OW.out wr.heap.size 1 [.slice ar k cr] rfl rfl NC.out OC.out n5.out y5.out x5.out ?_)
                intro a3 c3 w3 ho3 hg3 hat3
                have st3 : Hid (RowsSt wo w3 (rowsT (stepR A R) k (j + 1)) a3 c3 (cells ++ [.slice ar k cr])) := by
                  have ow' := ow.out
                  have e : (Value.slice ar k cr) = .slice ar (rowT (stepR A R) j k).length cr := by rw [hlk.out]
                  show RowsSt _ _ _ _ _ _
                  rw [rowsT_succ, e]
                  refine st.out.app (w' := wr) (by rw [hlk.out]; exact ow') lo.out (balloc (Below.refl _ _) (.cells #[.slice ar k cr] 32)) (by rw [hli.out, ← e]; exact ho3) (by rw [hli.out]; exact hg3) ?_
                  rw [hli.out]
                  rcases hat3 with h1 | h1
                  · exact .inl h1
                  · exact .inr ⟨_, by simp, h1⟩
                clear OW NC OC n5 y5 x5 ho3 hg3 hat3 st st2 ow lo
                go_wp2
                go_roundw
                case rel => exact ⟨j + 1, a3, c3, _, b, by omega, by go_num, rfl, rfl, hch2, st3⟩
                case measure => simp [intOf]; omega
          · obtain rfl : j = i := by omega
            have low2 := Lib.hid (btrans hlo.out st.out.low)
            cases b with
            | false =>
              have hno : Hid (DirOf A L) := hD2.out (by
                have := hch.out
                have e := hnE.out
                subst e
                exact chg_no this.symm)
              have rows2 := Lib.hid (hra.out.below st.out.low)
              clear hD2 hch st
              go_wp2
              go_ret
              exact ⟨a, c, L, by rw [hsq.out.1]; rfl, hno.out, rows2.out, btrans hbw.out low2.out⟩
            | true =>
              have hlt : Hid (cntR j (fnOf (rowsT (stepR A R) j j)) < gk) := by
                have h1 := hch.out
                have e := hnE.out
                subst e
                have h2 := chg_yes h1.symm
                have h3 : cntR A.nodes.length (fnOf (rowsT (stepR A R) A.nodes.length A.nodes.length)) = cntR A.nodes.length (stepR A R) := cnt_congr fun i k hi hk => by rw [rowsT_mat, fn_mat hi hk]
                have h4 := hq.out
                show _ < _
                omega
              have rows2 := Lib.hid st.out.rows
              have sq2 : Hid (Square j (rowsT (stepR A R) j j)) := sq_mat _ _
              clear hD2 hch st hq hra hcell hcan
              go_wp2
              go_roundg (cntR j (fnOf (rowsT (stepR A R) j j)))
              case measure => exact hlt.out
              case rel => exact ⟨_, a2, c2, rfl, rfl, sq2, hst, Nat.le_refl _, rows2, low2⟩
end Go.Proofs.Ytnllgigolfakpaa
