/- The document's reader of formulas: its level, its op, walked. No conditions. The document's reader of formulas in memory; the text at hand, the proposition that a word names, walked. Conditions: not too many tokens. The document's reader of formulas notes its first error, walked. Conditions: not too many tokens. What the document's reader gives, and how a token's text tells its class, plain. Conditions: the tokens are Scan's. -/
import Derived.Test.YtkehfolcfcbplaaGreatDoorSLtR5
import Derived.Test.YtkehfolcfcbplaaGreatDoorSLtW10
import Derived.Test.YtkehfolcfcbplaaGreatDoorSLexI
import Derived.Test.YtkehfolcfcbplaaGreatDoorSLtR7
namespace Go.Proofs.YtkehfolcfcbplaaGreatDoor
open Go.RowKit
set_option linter.unusedVariables false
set_option linter.unusedSimpArgs false
def levelP (s : List UInt8) : Nat := if s = [85] then 4 else if s = [82] then 4 else if s = [38, 38] then 3 else if s = [124, 124] then 2 else if s = [61, 62] then 1 else 0
theorem opOf_back {s : List UInt8} (h : opOf s ≠ 0) : wordP (opOf s) = s ∧ 1 ≤ opOf s ∧ opOf s ≤ 12 ∧ opOf s ≠ 3 := by
  by_cases e1 : s = wordP 1
  · subst e1; decide
  by_cases e2 : s = wordP 2
  · subst e2; decide
  by_cases e4 : s = wordP 4
  · subst e4; decide
  by_cases e5 : s = wordP 5
  · subst e5; decide
  by_cases e6 : s = wordP 6
  · subst e6; decide
  by_cases e7 : s = wordP 7
  · subst e7; decide
  by_cases e8 : s = wordP 8
  · subst e8; decide
  by_cases e9 : s = wordP 9
  · subst e9; decide
  by_cases e10 : s = wordP 10
  · subst e10; decide
  by_cases e11 : s = wordP 11
  · subst e11; decide
  by_cases e12 : s = wordP 12
  · subst e12; decide
  exact absurd (by unfold opOf; rw [if_neg e1, if_neg e2, if_neg e4, if_neg e5, if_neg e6, if_neg e7, if_neg e8, if_neg e9, if_neg e10, if_neg e11, if_neg e12]) h
theorem level_op (s : List UInt8) : levelP s = if takesP (opOf s) = 2 then bindsP (opOf s) else 0 := by
  by_cases e1 : s = wordP 1
  · subst e1; decide
  by_cases e2 : s = wordP 2
  · subst e2; decide
  by_cases e4 : s = wordP 4
  · subst e4; decide
  by_cases e5 : s = wordP 5
  · subst e5; decide
  by_cases e6 : s = wordP 6
  · subst e6; decide
  by_cases e7 : s = wordP 7
  · subst e7; decide
  by_cases e8 : s = wordP 8
  · subst e8; decide
  by_cases e9 : s = wordP 9
  · subst e9; decide
  by_cases e10 : s = wordP 10
  · subst e10; decide
  by_cases e11 : s = wordP 11
  · subst e11; decide
  by_cases e12 : s = wordP 12
  · subst e12; decide
  have h1 : opOf s = 0 := by unfold opOf; rw [if_neg e1, if_neg e2, if_neg e4, if_neg e5, if_neg e6, if_neg e7, if_neg e8, if_neg e9, if_neg e10, if_neg e11, if_neg e12]
  have h2 : levelP s = 0 := by
    unfold levelP
    rw [if_neg (show ¬ s = [85] from e9), if_neg (show ¬ s = [82] from e10), if_neg (show ¬ s = [38, 38] from e5), if_neg (show ¬ s = [124, 124] from e6), if_neg (show ¬ s = [61, 62] from e7)]
  rw [h1, h2]
  decide
set_option maxRecDepth 8000 in
set_option maxHeartbeats 4000000 in
theorem rlevel_any (w : World) (s : ByteArray) : Calls Tryz.prog 36 #[.string s] w fun e w' => e = .returned (.int .i64 (levelP s.data.toList : Int)) ∧ w = w' := by
  by_cases h7 : s.data.toList ∈ ([[85], [82], [38, 38], [124, 124], [61, 62]] : List (List UInt8))
  · have hx : s ∈ ([⟨#[85]⟩, ⟨#[82]⟩, ⟨#[38, 38]⟩, ⟨#[124, 124]⟩, ⟨#[61, 62]⟩] : List ByteArray) := by
      simp only [List.mem_cons, List.not_mem_nil, or_false] at h7 ⊢
      rcases h7 with h | h | h | h | h
      · exact .inl (take_eta h)
      · exact .inr (.inl (take_eta h))
      · exact .inr (.inr (.inl (take_eta h)))
      · exact .inr (.inr (.inr (.inl (take_eta h))))
      · exact .inr (.inr (.inr (.inr (take_eta h))))
    clear h7
    simp only [List.mem_cons, List.not_mem_nil, or_false] at hx
    rcases hx with rfl | rfl | rfl | rfl | rfl <;>
      (go_enter Tryz.func36, Tryz.ntmps36
       go_wp2
       go_ret
       exact ⟨rfl, rfl⟩)
  · have n1 : ¬ s.data.toList = [85] := fun h => h7 (by rw [h]; decide)
    have n2 : ¬ s.data.toList = [82] := fun h => h7 (by rw [h]; decide)
    have n3 : ¬ s.data.toList = [38, 38] := fun h => h7 (by rw [h]; decide)
    have n4 : ¬ s.data.toList = [124, 124] := fun h => h7 (by rw [h]; decide)
    have n5 : ¬ s.data.toList = [61, 62] := fun h => h7 (by rw [h]; decide)
    have hr : levelP s.data.toList = 0 := by unfold levelP; rw [if_neg n1, if_neg n2, if_neg n3, if_neg n4, if_neg n5]
    rw [hr]
    have a1 := str_ne n1
    have b1 := str_ne' n1
    have a2 := str_ne n2
    have b2 := str_ne' n2
    have a3 := str_ne n3
    have b3 := str_ne' n3
    have a4 := str_ne n4
    have b4 := str_ne' n4
    have a5 := str_ne n5
    have b5 := str_ne' n5
    clear n1 n2 n3 n4 n5 h7 hr
    go_enter Tryz.func36, Tryz.ntmps36
    go_wp2
    go_ret
    exact ⟨rfl, rfl⟩
theorem sign_cond : ∀ k : Nat, k < 13 → 1 ≤ k → k ≠ 3 → (takesP (k : Int) = 0 ∧ (k : Int) ≠ 3 ∨ takesP (k : Int) = 1 ∨ takesP (k : Int) = 2) ∧ opOf (wordP (k : Int)) = k := by decide
set_option maxRecDepth 8000 in
set_option maxHeartbeats 4000000 in
theorem rop_any (w : World) (s : ByteArray) : Calls Tryz.prog 38 #[.string s] w fun e w' => e = .returned (.int .i64 (opOf s.data.toList)) ∧ w = w' := by
  obtain ⟨l, hl⟩ : ∃ l, l = s.data.toList := ⟨_, rfl⟩
  rw [← hl]
  have SG := Lib.hid (fun (k : Int) h => rsign_any w k h)
  have T0 : Hid (∀ j : Nat, 1 ≤ j → j < 1 → j ≠ 3 → wordP (j : Int) ≠ l) := fun j h1 h2 => by omega
  replace hl := Lib.hid hl
  go_enter Tryz.func38, Tryz.ntmps38
  go_wp2
  go_loop [2, 3] (fun rv iv => ∃ k : Nat, rv = .int .i64 0 ∧ iv = .int .i64 (k : Int) ∧ 1 ≤ k ∧ k ≤ 13 ∧ Hid (∀ j : Nat, 1 ≤ j → j < k → j ≠ 3 → wordP (j : Int) ≠ l)) (fun _ iv => 13 - (intOf iv).toNat)
  case atStart => exact ⟨1, rfl, rfl, Nat.le_refl _, by decide, T0⟩
  case round =>
    obtain ⟨k, rfl, rfl, hk1, hk, hall⟩ := hrel
    clear T0
    by_cases hlt : k ≤ 12
    · have hkI : (k : Int) ≤ 12 := by omega
      by_cases h3 : k = 3
      · subst h3
        have hall2 : Hid (∀ j : Nat, 1 ≤ j → j < 4 → j ≠ 3 → wordP (j : Int) ≠ l) := fun j h1 h2 h3 => hall.out j h1 (by omega) h3
        clear hall
        go_wp2
        go_round
        case rel => exact ⟨4, rfl, by first | rfl | go_num, by decide, by decide, hall2⟩
        case measure => simp [intOf]
      · have h3B : ((k : Int) != 3) = true := by rw [bne_iff_ne]; omega
        have h3N : (k != 3) = true := by rw [bne_iff_ne]; exact h3
        obtain ⟨sc1, sc2⟩ := sign_cond k (by omega) hk1 h3
        have S1 := Lib.hid (SG.out (k : Int) sc1)
        obtain ⟨x, hx⟩ : ∃ x : ByteArray, x = ⟨(wordP (k : Int)).toArray⟩ := ⟨_, rfl⟩
        rw [← hx] at S1
        by_cases he : wordP (k : Int) = l
        · have hr : Hid ((k : Int) = opOf l) := by show _ = _; rw [← he]; exact sc2.symm
          have hxs : x = s := by rw [hx]; exact (str_eq _ _).2 (he.trans hl.out)
          subst hxs
          clear he hx sc1 sc2 hall h3
          go_wp2_with fail
          refine S1.out.mono ?_
          rintro e w1 ⟨rfl, rfl⟩
          clear S1
          go_wp2
          go_ret
          exact ⟨congrArg (fun b => Ending.returned (Value.int .i64 b)) hr.out, rfl⟩
        · have hxs : ¬ x = s := fun e => he (by rw [hl.out, ← e, hx])
          have hxB := str_no hxs
          have hall2 : Hid (∀ j : Nat, 1 ≤ j → j < k + 1 → j ≠ 3 → wordP (j : Int) ≠ l) := fun j h1 h2 h3 => by
            by_cases e : j = k
            · subst e; exact he
            · exact hall.out j h1 (by omega) h3
          clear he hx hxs sc1 sc2 hall h3
          go_wp2_with fail
          refine S1.out.mono ?_
          rintro e w1 ⟨rfl, rfl⟩
          clear S1
          go_wp2
          go_round
          case rel => exact ⟨k + 1, rfl, by go_num, by omega, by omega, hall2⟩
          case measure => simp [intOf]; omega
    · have hkI : ¬ (k : Int) ≤ 12 := by omega
      have hr : Hid (0 = opOf l) := by
        show _ = _
        refine Classical.byContradiction fun h => ?_
        obtain ⟨o1, o2, o3, o4⟩ := opOf_back (fun e => h e.symm)
        have := hall.out (opOf l).toNat (by omega) (by omega) (by omega)
        rw [show (((opOf l).toNat : Nat) : Int) = opOf l from by omega] at this
        exact this o1
      clear hall
      go_wp2
      go_ret
      exact ⟨congrArg (fun b => Ending.returned (Value.int .i64 b)) hr.out, rfl⟩
end Go.Proofs.YtkehfolcfcbplaaGreatDoor
namespace Go.Proofs.YtkehfolcfcbplaaGreatDoor
open Go.RowKit
set_option linter.unusedVariables false
set_option linter.unusedSimpArgs false
abbrev TRz : Nat := 49
def rzV (X : RdX) (a : Nat) (pl wy : Int) : List Value := [.slice X.la X.T.length X.lc, .int .i64 (X.en : Int), .slice X.na X.N.length X.nc, .int .i64 (a : Int), .int .i64 pl, .int .i64 wy]
structure RzS (X : RdX) (w : World) (a : Nat) (pl wy : Int) : Prop where
  box : RowAt w X.g TRz (rzV X a pl wy)
  bel : Below X.W.heap.size X.W w
theorem RzS.below {X : RdX} {w w' : World} {a : Nat} {pl wy : Int} (h : RzS X w a pl wy) (hb : Below w.heap.size w w') : RzS X w' a pl wy := ⟨h.box.below hb, h.bel.trans (hb.mono h.bel.size)⟩
theorem RzS.put {X : RdX} {w w' : World} {a a' : Nat} {pl wy pl' wy' : Int} (h : RzS X w a pl wy) (hX : RdOk X) (q : RowAt w' X.g TRz (rzV X a' pl' wy')) (k : Keeps w w' (fun j => j = X.g)) : RzS X w' a' pl' wy' := ⟨q, k.below h.bel (fun j e => by rw [e]; exact hX.gB)⟩
def nowP (T : List Tk) (a : Nat) : List UInt8 := match T[a]? with
  | some t => t.text
  | none => []
set_option maxRecDepth 8000 in
set_option maxHeartbeats 4000000 in
theorem rnow_any (X : RdX) (hX : RdOk X) (w : World) (a : Nat) (pl wy : Int) (h : RzS X w a pl wy) (ha : a ≤ 100000) :
    Calls Tryz.prog 37 #[.pointer (some ⟨X.g, 0, none⟩)] w fun e w' => e = .returned (.string ⟨(nowP X.T a).toArray⟩) ∧ Quiet w w' := by
  have c0 : w.cell? ⟨X.g, 0, none⟩ = some (.slice X.la X.T.length X.lc) := h.box.cell 0
  have c3 : w.cell? ⟨X.g, 3, none⟩ = some (.int .i64 (a : Int)) := h.box.cell 3
  have htk := hX.toks.below h.bel
  have htl := hX.tl
  obtain ⟨res, hres⟩ : ∃ res : ByteArray, res = ⟨(nowP X.T a).toArray⟩ := ⟨_, rfl⟩
  rw [← hres]
  unfold nowP at hres
  obtain ⟨n, hn⟩ : ∃ n, n = X.T.length := ⟨_, rfl⟩
  have hnI : (n : Int) ≤ 6000 := by omega
  have haI : (a : Int) ≤ 100000 := by omega
  rw [← hn] at c0
  by_cases hl : a < X.T.length
  · have hlI : (a : Int) < (n : Int) := by omega
    have hlB : decide (n ≤ a) = false := decide_eq_false (by omega)
    obtain ⟨b, off, ea, hbl, hc⟩ := htk (by omega)
    have SG := hc a hl
    rw [List.getElem?_eq_getElem hl] at hres
    generalize X.T[a] = t at SG hres
    obtain ⟨tk, tn, ta, tt⟩ := t
    dsimp only at SG hres
    rw [← hres] at SG
    have d3 : w.cell? ⟨b, off + a * 4 + 3, none⟩ = some (.string res) := SG 3 _ rfl
    rw [ea] at c0
    clear hres SG hc hl htk htl hn h hX ha ea
    go_enter Tryz.func37, Tryz.ntmps37
    go_wp2
    go_quiet (fail)
    go_wp2
    go_quiet (fail)
    go_wp2
    go_ret
    exact ⟨rfl, Quiet.two _ _ _⟩
  · have hlI : ¬ (a : Int) < (n : Int) := by omega
    have hlB : decide (n ≤ a) = true := decide_eq_true (by omega)
    have hlI2 : (n : Int) ≤ (a : Int) := by omega
    rw [List.getElem?_eq_none (by omega)] at hres
    subst hres
    clear hl htk htl hn h hX ha
    go_enter Tryz.func37, Tryz.ntmps37
    go_wp2
    go_quiet (fail)
    go_wp2
    go_ret
    exact ⟨rfl, Quiet.one _ _⟩
def propP (N : List (List UInt8)) (s : List UInt8) : Int := match nameAt N s with
  | some i => i
  | none => -1
theorem nameAt_none {N : List (List UInt8)} {s : List UInt8} (h : ∀ j, j < min N.length 8 → ((N.getD j [] == s) && mayP N j) = false) : propP N s = -1 := by
  have : nameAt N s = none := by
    unfold nameAt
    rw [List.find?_eq_none]
    intro j hj
    rw [List.mem_range] at hj
    rw [h j hj]
    decide
  unfold propP
  rw [this]
theorem nameAt_some {N : List (List UInt8)} {s : List UInt8} {i : Nat} (hi : i < min N.length 8) (hp : ((N.getD i [] == s) && mayP N i) = true) (h : ∀ j, j < i → ((N.getD j [] == s) && mayP N j) = false) : propP N s = (i : Int) := by
  have : nameAt N s = some i := find_range hi hp h
  unfold propP
  rw [this]
set_option maxRecDepth 8000 in
set_option maxHeartbeats 8000000 in
theorem rprop_any (X : RdX) (hX : RdOk X) (w : World) (a : Nat) (pl wy : Int) (h : RzS X w a pl wy) (s : ByteArray) :
    Calls Tryz.prog 39 #[.pointer (some ⟨X.g, 0, none⟩), .string s] w fun e w' => e = .returned (.int .i64 (propP X.N s.data.toList)) ∧ Below w.heap.size w w' := by
  have C2 : Hid (∀ v, Below w.heap.size w v → v.cell? ⟨X.g, 2, none⟩ = some (.slice X.na X.N.length X.nc)) := fun v hb => (h.below hb).box.cell 2
  have NM : Hid (∀ v, Below w.heap.size w v → StrsAt v X.na X.N) := fun v hb => hX.names.below (h.below hb).bel
  have hnl := hX.nl
  have MY : Hid (∀ v, Below w.heap.size w v → ∀ k, k < X.N.length → Calls Tryz.prog 41 #[.slice X.na X.N.length X.nc, .int .i64 (k : Int)] v fun e w' => e = .returned (.bool (mayP X.N k)) ∧ Below v.heap.size v w') := fun v hb k hk => rmay_any v X.na X.nc X.N (hX.names.below (h.below hb).bel) hX.nl k hk (hX.ns _ (by
    have : X.N.getD k [] = X.N[k] := by simp [List.getD, List.getElem?_eq_getElem hk]
    rw [this]
    exact List.getElem_mem hk))
  obtain ⟨res, hres⟩ : ∃ res, res = propP X.N s.data.toList := ⟨_, rfl⟩
  rw [← hres]
  have T0 : Hid (∀ j, j < 0 → ((X.N.getD j [] == s.data.toList) && mayP X.N j) = false) := fun j h0 => absurd h0 (Nat.not_lt_zero _)
  obtain ⟨n, hn⟩ : ∃ n, n = X.N.length := ⟨_, rfl⟩
  rw [← hn] at C2 MY
  have hnI : (n : Int) ≤ 1000 := by omega
  replace hn := Lib.hid hn
  replace hres := Lib.hid hres
  clear h hX hnl
  go_enter Tryz.func39, Tryz.ntmps39
  go_wp2
  go_loopw [4, 5] (fun rv iv wr => ∃ k : Nat, rv = .int .i64 0 ∧ iv = .int .i64 (k : Int) ∧ k ≤ n ∧ Hid (Below w.heap.size w wr) ∧ Hid (∀ j, j < k → ((X.N.getD j [] == s.data.toList) && mayP X.N j) = false)) (fun _ iv _ => n - (intOf iv).toNat)
  case atStart => exact ⟨0, rfl, rfl, Nat.zero_le _, Below.refl _ _, T0⟩
  case round =>
    obtain ⟨k, rfl, rfl, hk, zr, hall⟩ := hrel
    clear T0
    have c2 := C2.out wr zr.out
    by_cases hlt : k < n
    · have hkI : (k : Int) < (n : Int) := by omega
      by_cases h8 : k < 8
      · have h8I : (k : Int) < 8 := by omega
        have k1 : Hid (k < X.N.length) := by show _ < _; have := hn.out; omega
        obtain ⟨b, o, ea, hc⟩ := (NM.out wr zr.out) (by have := k1.out; omega)
        have c0 := hc k k1.out
        have hgd : X.N.getD k [] = X.N[k]'k1.out := by simp [List.getD, List.getElem?_eq_getElem k1.out]
        obtain ⟨q, hq⟩ : ∃ q : ByteArray, q = ⟨(X.N[k]'k1.out).toArray⟩ := ⟨_, rfl⟩
        rw [← hq] at c0
        rw [ea] at c2
        have hqd : q.data.toList = X.N.getD k [] := by rw [hq, hgd]
        have M1 := MY.out wr zr.out k hlt
        rw [ea] at M1
        clear hc hq hgd
        by_cases he : q = s
        · have hb1 : (X.N.getD k [] == s.data.toList) = true := by rw [← hqd, he]; exact beq_self_eq_true _
          have ST : Hid (∀ bv, mayP X.N k = bv → ((X.N.getD k [] == s.data.toList) && mayP X.N k) = bv) := fun bv e => by rw [hb1, Bool.true_and]; exact e
          obtain ⟨bv, hbv⟩ : ∃ bv, bv = mayP X.N k := ⟨_, rfl⟩
          rw [← hbv] at M1
          have st := Lib.hid (ST.out bv hbv.symm)
          replace M1 := Lib.hid M1
          replace ea := Lib.hid ea
          subst he
          clear hb1 ST hbv hqd
          cases bv with
          | true =>
            have hr : Hid (res = (k : Int)) := by
              show _ = _
              rw [hres.out]
              exact nameAt_some (by have := k1.out; omega) st.out hall.out
            clear hall st
            go_wp2_with fail
            refine M1.out.mono ?_
            rintro e w1 ⟨rfl, hb1⟩
            have z1 := Lib.hid (btrans zr.out hb1)
            clear hb1 M1
            go_wp2
            go_ret
            exact ⟨congrArg (fun b => Ending.returned (Value.int .i64 b)) hr.out.symm, z1.out⟩
          | false =>
            have hall2 : Hid (∀ j, j < k + 1 → ((X.N.getD j [] == q.data.toList) && mayP X.N j) = false) := fun j hj => by
              by_cases e : j = k
              · subst e; exact st.out
              · exact hall.out j (by omega)
            clear hall st
            go_wp2_with fail
            refine M1.out.mono ?_
            rintro e w1 ⟨rfl, hb1⟩
            have z1 := Lib.hid (btrans zr.out hb1)
            clear hb1 M1
            go_wp2
            go_roundw
            case rel => exact ⟨k + 1, rfl, by go_num, by omega, z1, hall2⟩
            case measure => simp [intOf]; omega
        · have hb1 : (X.N.getD k [] == s.data.toList) = false := by
            rw [← hqd, beq_eq_false_iff_ne]
            exact fun e => he (ByteArray.ext (Array.ext' e))
          have heB := str_no he
          have hall2 : Hid (∀ j, j < k + 1 → ((X.N.getD j [] == s.data.toList) && mayP X.N j) = false) := fun j hj => by
            by_cases e : j = k
            · subst e; rw [hb1, Bool.false_and]
            · exact hall.out j (by omega)
          replace ea := Lib.hid ea
          clear hall he hb1 hqd M1
          go_wp2
          go_roundw
          case rel => exact ⟨k + 1, rfl, by go_num, by omega, zr, hall2⟩
          case measure => simp [intOf]; omega
      · have h8I : ¬ (k : Int) < 8 := by omega
        have hr : Hid (res = -1) := by
          show _ = _
          rw [hres.out]
          exact nameAt_none (fun j hj => hall.out j (by omega))
        clear hall h8
        go_wp2
        go_ret
        exact ⟨congrArg (fun b => Ending.returned (Value.int .i64 b)) hr.out.symm, zr.out⟩
    · have hkI : ¬ (k : Int) < (n : Int) := by omega
      have hr : Hid (res = -1) := by
        show _ = _
        rw [hres.out]
        exact nameAt_none (fun j hj => hall.out j (by have := hn.out; omega))
      clear hall hlt
      go_wp2
      go_ret
      exact ⟨congrArg (fun b => Ending.returned (Value.int .i64 b)) hr.out.symm, zr.out⟩
end Go.Proofs.YtkehfolcfcbplaaGreatDoor
namespace Go.Proofs.YtkehfolcfcbplaaGreatDoor
open Go.RowKit
set_option linter.unusedVariables false
set_option linter.unusedSimpArgs false
theorem frame72 (arr : Array Value) (h : arr.size = 72) : ∃ q : Nat → Value, arr = #[q 0, q 1, q 2, q 3, q 4, q 5, q 6, q 7, q 8, q 9, q 10, q 11, q 12, q 13, q 14, q 15, q 16, q 17, q 18, q 19, q 20, q 21, q 22, q 23, q 24, q 25, q 26, q 27, q 28, q 29, q 30, q 31, q 32, q 33, q 34, q 35, q 36, q 37, q 38, q 39, q 40, q 41, q 42, q 43, q 44, q 45, q 46, q 47, q 48, q 49, q 50, q 51, q 52, q 53, q 54, q 55, q 56, q 57, q 58, q 59, q 60, q 61, q 62, q 63, q 64, q 65, q 66, q 67, q 68, q 69, q 70, q 71] := by
  refine ⟨fun i => arr.toList.getD i undef, ?_⟩
  have h1 := list_getN (l := arr.toList) (n := 72) (by simpa using h)
  apply Array.ext'
  exact h1
def FailV (X : RdX) (w : World) (a : Nat) (p : Int × Int) (e : Ending) (w' : World) : Prop := e = .returned (.slice none 0 0) ∧ RzS X w' a p.1 p.2 ∧ Keeps w w' (fun j => j = X.g)
set_option maxRecDepth 8000 in
set_option maxHeartbeats 8000000 in
theorem rfail_any (X : RdX) (hX : RdOk X) (w : World) (a : Nat) (h : RzS X w a 0 0) (ha : a ≤ X.T.length) :
    Calls Tryz.prog 17 #[.pointer (some ⟨X.g, 0, none⟩)] w fun e w' => FailV X w a (stopAt X a) e w' := by
  have box := h.box
  have hlt := box.lt
  have htl := hX.tl
  have BEL := Lib.hid h.bel
  obtain ⟨sp, hsp⟩ : ∃ sp, sp = stopAt X a := ⟨_, rfl⟩
  rw [← hsp]
  unfold stopAt at hsp
  have FIN : Hid (∀ v', RowAt v' X.g TRz (rzV X a sp.1 sp.2) → Keeps w v' (fun j => j = X.g) → FailV X w a sp (.returned (.slice none 0 0)) v') := fun v' q k => ⟨rfl, h.put hX q k, k⟩
  have RZ : Hid (∀ v', RowAt v' X.g TRz (rzV X a sp.1 3) → Keeps w v' (fun j => j = X.g) → RzS X v' a sp.1 3) := fun v' q k => h.put hX q k
  have TK : Hid (∀ v, Keeps w v (fun j => j = X.g) → TokAt v X.la X.T) := fun v k => hX.toks.below (k.below h.bel (fun j e => by rw [e]; exact hX.gB))
  have hX2 := Lib.hid hX
  have e5 : w.cell? ⟨X.g, 5, none⟩ = some (.int .i64 0) := box.cell 5
  have c1 : w.cell? ⟨X.g, 1, none⟩ = some (.int .i64 (X.en : Int)) := box.cell 1
  have p4 : w.cell? ⟨X.g, 4, none⟩ = some (.int .i64 0) := box.cell 4
  have pf4 := box.free 4
  obtain ⟨n, hn⟩ : ∃ n, n = X.T.length := ⟨_, rfl⟩
  have hnI : (n : Int) ≤ 6000 := by omega
  replace hn := Lib.hid hn
  clear h hX htl
  go_enter Tryz.func17, Tryz.ntmps17
  go_upto_region 3 with (fail)
  refine wp_region_list ?_
  refine wpList_plain rfl (fun K hK => ?_)
  go_simp
  refine hK _ _ ?_
  clear hK K
  refine wpList_plain rfl (fun K hK => ?_)
  go_simp
  refine hK _ _ ?_
  clear hK K
  refine wpList_plain rfl (fun K hK => ?_)
  go_simp
  refine hK _ _ ?_
  clear hK K
  refine wpList_plain rfl (fun K hK => ?_)
  go_simp
  refine hK _ _ ?_
  clear hK K
  refine wpList_plain rfl (fun K hK => ?_)
  go_simp
  refine hK _ _ ?_
  clear hK K
  refine wpList_plain rfl (fun K hK => ?_)
  go_simp
  refine hK _ _ ?_
  clear hK K
  refine wpList_plain rfl (fun K hK => ?_)
  go_simp
  refine hK _ _ ?_
  clear hK K
  refine wpList_plain rfl (fun K hK => ?_)
  go_simp
  refine hK _ _ ?_
  clear hK K
  have q3 := box.set 4 (.int .i64 (X.en : Int))
  have k3 : Keeps w (w.setCell ⟨X.g, 4, none⟩ (.int .i64 (X.en : Int))) (fun j => j = X.g) := Keeps.set _ _ _ _ rfl
  generalize w.setCell ⟨X.g, 4, none⟩ (.int .i64 (X.en : Int)) = w3 at q3 k3 ⊢
  refine wpList_nil ?_
  have p5 : w3.cell? ⟨X.g, 5, none⟩ = some (.int .i64 0) := q3.cell 5
  have pf5 := q3.free 5
  clear e5 c1 p4 pf4
  go_upto_region 4 with (fail)
  refine wp_region_list ?_
  refine wpList_plain rfl (fun K hK => ?_)
  go_simp
  refine hK _ _ ?_
  clear hK K
  refine wpList_plain rfl (fun K hK => ?_)
  go_simp
  refine hK _ _ ?_
  clear hK K
  refine wpList_plain rfl (fun K hK => ?_)
  go_simp
  refine hK _ _ ?_
  clear hK K
  refine wpList_plain rfl (fun K hK => ?_)
  go_simp
  refine hK _ _ ?_
  clear hK K
  have q4 := q3.set 5 (.int .i64 4)
  have k4 : Keeps w3 (w3.setCell ⟨X.g, 5, none⟩ (.int .i64 4)) (fun j => j = X.g) := Keeps.set _ _ _ _ rfl
  generalize w3.setCell ⟨X.g, 5, none⟩ (.int .i64 4) = w4 at q4 k4 ⊢
  refine wpList_nil ?_
  clear p5 pf5
  have q4' : RowAt w4 X.g TRz (rzV X a (X.en : Int) 4) := q4
  have k04 : Keeps w w4 (fun j => j = X.g) := k3.trans k4 (fun j _ e => e)
  clear q3 k3 q4 k4
  have c0 : w4.cell? ⟨X.g, 0, none⟩ = some (.slice X.la X.T.length X.lc) := q4'.cell 0
  have c3 : w4.cell? ⟨X.g, 3, none⟩ = some (.int .i64 (a : Int)) := q4'.cell 3
  rw [← hn.out] at c0
  by_cases hl : a < X.T.length
  · have hlI : (a : Int) < (n : Int) := by have := hn.out; omega
    have hlB : decide (n ≤ a) = false := decide_eq_false (by omega)
    obtain ⟨b, off, ea, hbl, hc⟩ := TK.out w4 k04 (by omega)
    have SG4 := hc a hl
    have TI := hX2.out.ti X.T[a] (List.getElem_mem hl)
    rw [List.getElem?_eq_getElem hl] at hsp
    generalize X.T[a] = t at SG4 hsp TI
    obtain ⟨tk, tn, ta, tt⟩ := t
    dsimp only at SG4 hsp TI
    have hs1 : sp.1 = (ta : Int) := by rw [hsp]
    have hs2 : sp.2 = (errC (clsP X.N tk tt) : Int) := by rw [hsp]
    obtain ⟨ts, hts⟩ : ∃ ts : ByteArray, ts = ⟨tt.toArray⟩ := ⟨_, rfl⟩
    rw [← hts] at SG4
    have htd : ts.data.toList = tt := by rw [hts]
    have EW := fun h1 => err_word (N := X.N) (s := tt) h1
    rw [ea] at c0
    clear hl hc hts ea hsp
    go_wp2
    go_quiet (fail)
    obtain ⟨wq, hwq⟩ : ∃ wq, wq = w4.drewN nq := ⟨_, rfl⟩
    have bq : Below w4.heap.size w4 wq := by rw [hwq]; exact bdrewN (Below.refl _ _) _
    rw [← hwq]
    have q4q := q4'.below bq
    have k0q : Keeps w wq (fun j => j = X.g) := k04.trans (Keeps.of_below bq) (fun j _ e => e)
    have c0 : wq.cell? ⟨X.g, 0, none⟩ = some (.slice (some ⟨b, off, none⟩) n X.lc) := bcell bq c0
    have c3 : wq.cell? ⟨X.g, 3, none⟩ = some (.int .i64 (a : Int)) := bcell bq c3
    have SGT : Hid (wq.rangeAt b (off + a * 4) (tkV tk tn ta ts)) := fun j u hj => bcell bq (SG4 j u hj)
    replace hwq := Lib.hid hwq
    clear bq q4' k04 SG4
    go_upto_region 6 with (fail)
    refine wp_region_kp (by kernel_rfl) 11 [.fix (.pointer (some ⟨X.g, 0, none⟩)), .fix (.pointer (some ⟨X.g, 0, none⟩)), .fix (.pointer (some ⟨X.g, 0, none⟩)), .fix (.slice (some ⟨b, off, none⟩) n X.lc), .fix (.pointer (some ⟨X.g, 0, none⟩)), .fix (.pointer (some ⟨X.g, 0, none⟩)), .fix (.pointer (some ⟨X.g, 3, none⟩)), .fix (.int .i64 (a : Int)), .fix (.pointer (some ⟨b, off + a * 4, none⟩)), .fix (.agg #[.int .i64 (tk : Int), .int .i64 tn, .int .i64 (ta : Int), .string ts]), Kp.box wq.heap.size TRtk [.int .i64 0, .int .i64 0, .int .i64 0, .string ⟨#[]⟩]] (by kernel_rfl) (by kernel_rfl) (by kernel_rfl) ?_ ?_
    · intro i hi
      match i, hi with
      | 0, _ =>
        intro o ho ac w' hR hF hD K hK
        simp only [zqA, zqZ, zqI] at ho
        subst ho
        have e0 : ac.tmps.getD 0 undef = .pointer (some ⟨X.g, 0, none⟩) := hF 0 (znd (by kernel_rfl))
        have d0 := zgD e0
        clear hD hF
        go_simp
        exact hK _ _ (Below.refl _ _) rfl
      | 1, _ =>
        intro o ho ac w' hR hF hD K hK
        simp only [zqA, zqZ, zqS, zqI] at ho
        subst ho
        have e29 : ac.tmps.getD 29 undef = .pointer (some ⟨X.g, 0, none⟩) := hD 0 (zdp (by kernel_rfl)) 29 rfl
        have d29 := zgD e29
        clear hD hF
        go_simp
        exact hK _ _ (Below.refl _ _) rfl
      | 2, _ =>
        intro o ho ac w' hR hF hD K hK
        simp only [zqA, zqZ, zqS, zqI] at ho
        subst ho
        have e30 : ac.tmps.getD 30 undef = .pointer (some ⟨X.g, 0, none⟩) := hD 1 (zdp (by kernel_rfl)) 30 rfl
        have d30 := zgD e30
        clear hD hF
        go_simp
        exact hK _ _ (Below.refl _ _) rfl
      | 3, _ =>
        intro o ho ac w' hR hF hD K hK
        simp only [zqA, zqZ, zqS, zqI] at ho
        subst ho
        have e31 : ac.tmps.getD 31 undef = .pointer (some ⟨X.g, 0, none⟩) := hD 2 (zdp (by kernel_rfl)) 31 rfl
        have d31 := zgD e31
        clear hD hF
        have q0 : w'.cell? ⟨X.g, 0, none⟩ = some (.slice (some ⟨b, off, none⟩) n X.lc) := bcell hR c0
        go_simp
        exact hK _ _ (Below.refl _ _) rfl
      | 4, _ =>
        intro o ho ac w' hR hF hD K hK
        simp only [zqA, zqZ, zqS, zqI] at ho
        subst ho
        have e0 : ac.tmps.getD 0 undef = .pointer (some ⟨X.g, 0, none⟩) := hF 0 (znd (by kernel_rfl))
        have d0 := zgD e0
        clear hD hF
        go_simp
        exact hK _ _ (Below.refl _ _) rfl
      | 5, _ =>
        intro o ho ac w' hR hF hD K hK
        simp only [zqA, zqZ, zqS, zqI] at ho
        subst ho
        have e33 : ac.tmps.getD 33 undef = .pointer (some ⟨X.g, 0, none⟩) := hD 4 (zdp (by kernel_rfl)) 33 rfl
        have d33 := zgD e33
        clear hD hF
        go_simp
        exact hK _ _ (Below.refl _ _) rfl
      | 6, _ =>
        intro o ho ac w' hR hF hD K hK
        simp only [zqA, zqZ, zqS, zqI] at ho
        subst ho
        have e34 : ac.tmps.getD 34 undef = .pointer (some ⟨X.g, 0, none⟩) := hD 5 (zdp (by kernel_rfl)) 34 rfl
        have d34 := zgD e34
        clear hD hF
        go_simp
        exact hK _ _ (Below.refl _ _) rfl
      | 7, _ =>
        intro o ho ac w' hR hF hD K hK
        simp only [zqA, zqZ, zqS, zqI] at ho
        subst ho
        have e35 : ac.tmps.getD 35 undef = .pointer (some ⟨X.g, 3, none⟩) := hD 6 (zdp (by kernel_rfl)) 35 rfl
        have d35 := zgD e35
        clear hD hF
        have q0 : w'.cell? ⟨X.g, 3, none⟩ = some (.int .i64 (a : Int)) := bcell hR c3
        go_simp
        exact hK _ _ (Below.refl _ _) rfl
      | 8, _ =>
        intro o ho ac w' hR hF hD K hK
        simp only [zqA, zqZ, zqS, zqI] at ho
        subst ho
        have e32 : ac.tmps.getD 32 undef = .slice (some ⟨b, off, none⟩) n X.lc := hD 3 (zdp (by kernel_rfl)) 32 rfl
        have d32 := zgD e32
        have e36 : ac.tmps.getD 36 undef = .int .i64 (a : Int) := hD 7 (zdp (by kernel_rfl)) 36 rfl
        have d36 := zgD e36
        clear hD hF
        go_simp
        exact hK _ _ (Below.refl _ _) rfl
      | 9, _ =>
        intro o ho ac w' hR hF hD K hK
        simp only [zqA, zqZ, zqS, zqI] at ho
        subst ho
        have e37 : ac.tmps.getD 37 undef = .pointer (some ⟨b, off + a * 4, none⟩) := hD 8 (zdp (by kernel_rfl)) 37 rfl
        have d37 := zgD e37
        clear hD hF
        exact step_loadM undRtk (l := [.int .i64 (tk : Int), .int .i64 tn, .int .i64 (ta : Int), .string ts]) (fun j u hj => bcell hR (SGT.out j u hj)) rfl rfl 37 rfl e37 (hK _ _ (Below.refl _ _) rfl)
      | 10, _ =>
        intro o ho ac w' hR hF hD K hK
        simp only [zqA, zqZ, zqS, zqI] at ho
        subst ho
        clear hD hF
        go_simp
        exact hK _ _ (balloc (Below.refl _ _) _) ⟨w'.heap.size, rfl, hR.size, RowAt.new #[.int .i64 0, .int .i64 0, .int .i64 0, .string ⟨#[]⟩] rfl⟩
      | k + 11, hk => omega
    · rintro ⟨tm, df⟩ w5 hdf hsz hF hR9 hV
      obtain rfl : df = [] := hdf
      obtain ⟨q, rfl⟩ := frame72 tm hsz
      have k38 : q 38 = .agg #[.int .i64 (tk : Int), .int .i64 tn, .int .i64 (ta : Int), .string ts] := hV 9 38 (by decide) rfl
      have h10 := hV 10 3 (by decide) rfl
      obtain ⟨gT, kT, hgT, r10⟩ := h10
      replace kT : q 3 = _ := kT
      rw [kT]
      simp only [k38]
      clear k38
      have kk := zbk hF [0, 1, 2, 4, 5, 6, 7, 8, 9, 10, 11, 12, 13, 14, 15, 16, 17, 18, 19, 20, 21, 22, 23, 24, 25, 26, 27, 28, 39, 40, 41, 42, 43, 44, 45, 46, 47, 48, 49, 50, 51, 52, 53, 54, 55, 56, 57, 58, 59, 60, 61, 62, 63, 64, 65, 66, 67, 68, 69, 70, 71] (by kernel_rfl)
      simp only [Bk, Array.getD_eq_getD_getElem?, zqA, zqS, zqZ, Option.getD_some] at kk
      simp only [kk]
      clear kk
      clear hF hV hsz
      change wpAny _ _ _ _ 1 _ _ _
      refine wpAny_ready (rs := [11]) (by kernel_rfl) (by simp) ?_
      refine AllReady.cons (i := 11) rfl (fun K hK => ?_) AllReady.nil
      refine step_store infoRtk r10 rfl rfl (tkV_one tk tn ta ts) rfl 3 38 rfl rfl rfl ?_
      intro w6 q6 k6
      refine hK _ _ ?_
      clear hK K
      refine ⟨by kernel_rfl, ?_⟩
      have hgT2 : wq.heap.size ≤ gT := hgT
      have b6 : Below wq.heap.size wq w6 := k6.below hR9 (fun j e => by rw [e]; exact hgT2)
      have k06 : Keeps w w6 (fun j => j = X.g) := k0q.trans (Keeps.of_below b6) (fun j _ e => e)
      have q6g := q4q.below b6
      have t0 : w6.cell? ⟨gT, 0, none⟩ = some (.int .i64 (tk : Int)) := q6.cell 0
      have t2 : w6.cell? ⟨gT, 2, none⟩ = some (.int .i64 (ta : Int)) := q6.cell 2
      have p4 : w6.cell? ⟨X.g, 4, none⟩ = some (.int .i64 (X.en : Int)) := q6g.cell 4
      have pf4 := q6g.free 4
      have hne : gT ≠ X.g := by have := q4q.lt; omega
      replace hR9 := Lib.hid hR9
      clear b6 k6 r10 c0 c3
      go_upto_region 7 with (fail)
      refine wp_region_list ?_
      refine wpList_plain rfl (fun K hK => ?_)
      go_simp
      refine hK _ _ ?_
      clear hK K
      refine wpList_plain rfl (fun K hK => ?_)
      go_simp
      refine hK _ _ ?_
      clear hK K
      refine wpList_plain rfl (fun K hK => ?_)
      go_simp
      refine hK _ _ ?_
      clear hK K
      refine wpList_plain rfl (fun K hK => ?_)
      go_simp
      refine hK _ _ ?_
      clear hK K
      refine wpList_plain rfl (fun K hK => ?_)
      go_simp
      refine hK _ _ ?_
      clear hK K
      refine wpList_plain rfl (fun K hK => ?_)
      go_simp
      refine hK _ _ ?_
      clear hK K
      have q7 := q6g.set 4 (.int .i64 (ta : Int))
      have k7 : Keeps w6 (w6.setCell ⟨X.g, 4, none⟩ (.int .i64 (ta : Int))) (fun j => j = X.g) := Keeps.set _ _ _ _ rfl
      generalize w6.setCell ⟨X.g, 4, none⟩ (.int .i64 (ta : Int)) = w7 at q7 k7 ⊢
      refine wpList_nil ?_
      have p5 : w7.cell? ⟨X.g, 5, none⟩ = some (.int .i64 4) := q7.cell 5
      have pf5 := q7.free 5
      clear p4 pf4 t0 t2
      go_upto_region 8 with (fail)
      refine wp_region_list ?_
      refine wpList_plain rfl (fun K hK => ?_)
      go_simp
      refine hK _ _ ?_
      clear hK K
      refine wpList_plain rfl (fun K hK => ?_)
      go_simp
      refine hK _ _ ?_
      clear hK K
      refine wpList_plain rfl (fun K hK => ?_)
      go_simp
      refine hK _ _ ?_
      clear hK K
      refine wpList_plain rfl (fun K hK => ?_)
      go_simp
      refine hK _ _ ?_
      clear hK K
      have q8 := q7.set 5 (.int .i64 3)
      have k8 : Keeps w7 (w7.setCell ⟨X.g, 5, none⟩ (.int .i64 3)) (fun j => j = X.g) := Keeps.set _ _ _ _ rfl
      generalize w7.setCell ⟨X.g, 5, none⟩ (.int .i64 3) = w8 at q8 k8 ⊢
      refine wpList_nil ?_
      clear p5 pf5
      have q8' : RowAt w8 X.g TRz (rzV X a (ta : Int) 3) := q8
      have k68 : Keeps w6 w8 (fun j => j = X.g) := k7.trans k8 (fun j _ e => e)
      have k08 : Keeps w w8 (fun j => j = X.g) := k06.trans k68 (fun j _ e => e)
      have qT8 := q6.keeps k68 hne
      have t0 : w8.cell? ⟨gT, 0, none⟩ = some (.int .i64 (tk : Int)) := qT8.cell 0
      have t3 : w8.cell? ⟨gT, 3, none⟩ = some (.string ts) := qT8.cell 3
      clear q7 k7 q8 k8 q6 q6g k06 k68
      rw [hs1] at RZ
      have rz8 := RZ.out w8 q8' k08
      by_cases hk : tk = 1
      · have hkB : ((tk : Int) == 1) = true := by rw [hk]; rfl
        have hkN : (tk == 1) = true := by rw [hk]; rfl
        obtain ⟨y1, y2⟩ := EW (TI hk)
        rw [hk] at hs2
        have LV := Lib.hid (rlevel_any w8 ts)
        have OP := Lib.hid (rop_any w8 ts)
        rw [htd] at LV OP
        by_cases ho : opOf tt = 0
        · have hlv : levelP tt = 0 := by rw [level_op, ho]; rfl
          rw [hlv] at LV
          rw [ho] at OP
          have y3 := y2 (own_op.2 ho)
          have PR := rprop_any X hX2.out w8 a (ta : Int) 3 rz8 ts
          rw [htd] at PR
          unfold propP at PR
          generalize nameAt X.N tt = nk at y3 PR
          cases nk with
          | some k =>
            replace PR := Lib.hid PR
            have hs : sp = ((ta : Int), 3) := Prod.ext hs1 (by rw [hs2, y3]; rfl)
            have fin : Hid (∀ v, Below w8.heap.size w8 v → FailV X w a sp (.returned (.slice none 0 0)) v) := fun v hb => FIN.out v (by rw [hs]; exact q8'.below hb) (k08.trans (Keeps.of_below hb) (fun j _ e => e))
            clear FIN hs hs2 hs1 y1 y2 y3 EW TI hk htd RZ rz8 TK
            go_wp2_with fail
            refine LV.out.mono ?_
            rintro e w9 ⟨rfl, rfl⟩
            rw [show ((0 : Nat) : Int) = 0 from rfl]
            go_wp2_with fail
            refine OP.out.mono ?_
            rintro e w9 ⟨rfl, rfl⟩
            go_wp2_with fail
            refine PR.out.mono ?_
            rintro e w9 ⟨rfl, hb9⟩
            have hf := Lib.hid (fin.out w9 hb9)
            clear hb9 fin LV OP PR
            go_wp2
            go_ret
            exact hf.out
          | none =>
            replace PR := Lib.hid PR
            have hs : sp = ((ta : Int), 8) := Prod.ext hs1 (by rw [hs2, y3]; rfl)
            have fin : Hid (∀ v, Below w8.heap.size w8 v → v.cell? ⟨X.g, 5, none⟩ = some (.int .i64 3) ∧ v.frozen? ⟨X.g, 5, none⟩ = false ∧ FailV X w a sp (.returned (.slice none 0 0)) (v.setCell ⟨X.g, 5, none⟩ (.int .i64 8))) := fun v hb => by
              have q9 := q8'.below hb
              have k9 : Keeps v (v.setCell ⟨X.g, 5, none⟩ (.int .i64 8)) (fun j => j = X.g) := Keeps.set _ _ _ _ rfl
              refine ⟨q9.cell 5, q9.free 5, FIN.out _ ?_ ((k08.trans (Keeps.of_below hb) (fun j _ e => e)).trans k9 (fun j _ e => e))⟩
              rw [hs]
              exact q9.set 5 (.int .i64 8)
            clear FIN hs hs2 hs1 y1 y2 y3 EW TI hk htd RZ rz8 TK
            go_wp2_with fail
            refine LV.out.mono ?_
            rintro e w9 ⟨rfl, rfl⟩
            rw [show ((0 : Nat) : Int) = 0 from rfl]
            go_wp2_with fail
            refine OP.out.mono ?_
            rintro e w9 ⟨rfl, rfl⟩
            go_wp2_with fail
            refine PR.out.mono ?_
            rintro e w9 ⟨rfl, hb9⟩
            obtain ⟨z5, zf5, hf0⟩ := fin.out w9 hb9
            have hf := Lib.hid hf0
            clear hb9 fin LV OP PR hf0
            go_wp2
            go_ret
            exact hf.out
        · have hs : sp = ((ta : Int), 3) := Prod.ext hs1 (by
            rw [hs2, y1 (by
              cases hc : ownF.contains tt with
              | true => rfl
              | false => exact absurd (own_op.1 hc) ho)]
            rfl)
          have fin := Lib.hid (FIN.out w8 (by rw [hs]; exact q8') k08)
          have hoB : (opOf tt == 0) = false := by rw [beq_eq_false_iff_ne]; exact ho
          generalize opOf tt = ot at OP hoB
          generalize levelP tt = lt at LV
          clear FIN hs hs2 hs1 y1 y2 EW TI hk htd RZ rz8 TK ho
          by_cases hl0 : lt = 0
          · subst hl0
            go_wp2_with fail
            refine LV.out.mono ?_
            rintro e w9 ⟨rfl, rfl⟩
            rw [show ((0 : Nat) : Int) = 0 from rfl]
            go_wp2_with fail
            refine OP.out.mono ?_
            rintro e w9 ⟨rfl, rfl⟩
            clear LV OP
            go_wp2
            go_ret
            exact fin.out
          · have hlB : ((lt : Int) == 0) = false := by rw [beq_eq_false_iff_ne]; omega
            have hlN : (lt == 0) = false := by rw [beq_eq_false_iff_ne]; exact hl0
            go_wp2_with fail
            refine LV.out.mono ?_
            rintro e w9 ⟨rfl, rfl⟩
            clear LV OP hl0
            go_wp2
            go_ret
            exact fin.out
      · have hkB : ((tk : Int) == 1) = false := by rw [beq_eq_false_iff_ne]; omega
        have hkN : (tk == 1) = false := by rw [beq_eq_false_iff_ne]; exact hk
        have hs : sp = ((ta : Int), 3) := Prod.ext hs1 (by rw [hs2, err_other hk]; rfl)
        have fin := Lib.hid (FIN.out w8 (by rw [hs]; exact q8') k08)
        clear FIN hs hs2 hs1 EW TI hk htd RZ rz8 TK
        go_wp2
        go_ret
        exact fin.out
  · have hlI : ¬ (a : Int) < (n : Int) := by have := hn.out; omega
    have hlB : decide (n ≤ a) = true := decide_eq_true (by have := hn.out; omega)
    have hlI2 : (n : Int) ≤ (a : Int) := by have := hn.out; omega
    rw [List.getElem?_eq_none (by omega)] at hsp
    have fin : Hid (∀ m, FailV X w a sp (.returned (.slice none 0 0)) (w4.drewN m)) := fun m => by
      have bq : Below w4.heap.size w4 (w4.drewN m) := bdrewN (Below.refl _ _) _
      refine FIN.out _ ?_ (k04.trans (Keeps.of_below bq) (fun j _ e => e))
      rw [hsp]
      exact q4'.below bq
    clear hl hsp FIN RZ TK q4' k04
    go_wp2
    go_quiet (fail)
    go_wp2
    go_ret
    exact fin.out _
end Go.Proofs.YtkehfolcfcbplaaGreatDoor
namespace Go.Proofs.YtkehfolcfcbplaaGreatDoor
open Go.RowKit
set_option linter.unusedVariables false
set_option linter.unusedSimpArgs false
structure RzOk (X : RdX) : Prop where
  ok : RdOk X
  td : ∀ t ∈ X.T, t.kind = 2 → headB isDig t.text = true
def modeM (m : Nat) : Md := if m = 5 then .leaf else .joint m
theorem down_mode (k : Nat) : downM k = modeM (k + 1) := by
  unfold downM modeM
  by_cases h : k = 4
  · rw [if_pos h, if_pos (by omega)]
  · rw [if_neg h, if_neg (by omega)]
theorem cls_at {X : RdX} {a : Nat} (h : a < X.T.length) : (clsL X.N X.T)[a]? = some (clsP X.N X.T[a].kind X.T[a].text) ∧ nowP X.T a = X.T[a].text := by
  refine ⟨?_, ?_⟩
  · unfold clsL
    rw [List.getElem?_map, List.getElem?_eq_getElem h]
    rfl
  · unfold nowP
    rw [List.getElem?_eq_getElem h]
theorem now_lt {X : RdX} {a : Nat} (h : nowP X.T a ≠ []) : a < X.T.length := by
  rcases Nat.lt_or_ge a X.T.length with h1 | h1
  · exact h1
  · unfold nowP at h
    rw [List.getElem?_eq_none h1] at h
    exact absurd rfl h
theorem now_kind {X : RdX} (hX : RzOk X) {a : Nat} (h : a < X.T.length) (hd : headB isDig (nowP X.T a) = false) : X.T[a].kind ≠ 2 := fun e => by
  have h1 := hX.td _ (List.getElem_mem h) e
  rw [(cls_at h).2] at hd
  rw [hd] at h1
  cases h1
theorem words_dig : ∀ k : Nat, k < 13 → 1 ≤ k → k ≠ 3 → headB isDig (wordP (k : Int)) = false ∧ wordP (k : Int) ≠ [] ∧ wordP (k : Int) ≠ [40] ∧ wordP (k : Int) ≠ [41] := by decide
theorem now_op {X : RdX} (hX : RzOk X) {a : Nat} (h : opOf (nowP X.T a) ≠ 0) : a < X.T.length ∧ (clsL X.N X.T)[a]? = some (if takesP (opOf (nowP X.T a)) = 0 then .con (opOf (nowP X.T a)) else if takesP (opOf (nowP X.T a)) = 1 then .un (opOf (nowP X.T a)) else .bin (opOf (nowP X.T a))) := by
  obtain ⟨o1, o2, o3, o4⟩ := opOf_back h
  obtain ⟨k, hk⟩ : ∃ k : Nat, opOf (nowP X.T a) = k := ⟨(opOf (nowP X.T a)).toNat, by omega⟩
  have hw := words_dig k (by omega) (by omega) (by omega)
  rw [← hk, o1] at hw
  have hl := now_lt hw.2.1
  refine ⟨hl, ?_⟩
  have hk2 := now_kind hX hl hw.1
  obtain ⟨c1, c2⟩ := cls_at hl
  rw [c1, c2]
  rw [c2] at h hw
  unfold clsP
  rw [if_neg hk2, if_neg hw.2.2.1, if_neg hw.2.2.2, if_neg h]
theorem clsz_op {X : RdX} (hX : RzOk X) {a : Nat} {c : Cls} (h : (clsL X.N X.T)[a]? = some c) (hc : (∃ op, c = .con op) ∨ (∃ op, c = .un op) ∨ ∃ op, c = .bin op) : opOf (nowP X.T a) ≠ 0 := by
  have hl : a < X.T.length := by
    have := (List.getElem?_eq_some_iff.1 h).1
    rw [cls_len] at this
    exact this
  obtain ⟨c1, c2⟩ := cls_at hl
  rw [c1] at h
  injection h with h
  rw [c2]
  intro e
  unfold clsP at h
  split at h
  · subst h; rcases hc with ⟨o, e⟩ | ⟨o, e⟩ | ⟨o, e⟩ <;> cases e
  · split at h
    · subst h; rcases hc with ⟨o, e⟩ | ⟨o, e⟩ | ⟨o, e⟩ <;> cases e
    · split at h
      · subst h; rcases hc with ⟨o, e⟩ | ⟨o, e⟩ | ⟨o, e⟩ <;> cases e
      · split at h
        · cases hna : nameAt X.N X.T[a].text with
          | some i => rw [hna] at h; subst h; rcases hc with ⟨o, e⟩ | ⟨o, e⟩ | ⟨o, e⟩ <;> cases e
          | none => rw [hna] at h; subst h; rcases hc with ⟨o, e⟩ | ⟨o, e⟩ | ⟨o, e⟩ <;> cases e
        · subst h; rcases hc with ⟨o, e⟩ | ⟨o, e⟩ | ⟨o, e⟩ <;> cases e
theorem now_lp {X : RdX} (hX : RzOk X) {a : Nat} : nowP X.T a = [40] ↔ (clsL X.N X.T)[a]? = some .lp := by
  constructor
  · intro h
    have hl := now_lt (X := X) (a := a) (by rw [h]; decide)
    have hk := now_kind hX hl (by rw [h]; rfl)
    obtain ⟨c1, c2⟩ := cls_at hl
    rw [c1]
    rw [c2] at h
    unfold clsP
    rw [if_neg hk, if_pos h]
  · intro h
    have hl : a < X.T.length := by
      have := (List.getElem?_eq_some_iff.1 h).1
      rw [cls_len] at this
      exact this
    obtain ⟨c1, c2⟩ := cls_at hl
    rw [c1] at h
    injection h with h
    rw [c2]
    unfold clsP at h
    split at h
    · cases h
    · split at h
      · assumption
      · split at h
        · cases h
        · split at h
          · split at h
            · split at h <;> cases h
            · cases h
          · split at h
            · cases h
            · split at h <;> cases h
theorem now_rp {X : RdX} (hX : RzOk X) {a : Nat} : nowP X.T a = [41] ↔ (clsL X.N X.T)[a]? = some .rp := by
  constructor
  · intro h
    have hl := now_lt (X := X) (a := a) (by rw [h]; decide)
    have hk := now_kind hX hl (by rw [h]; rfl)
    obtain ⟨c1, c2⟩ := cls_at hl
    rw [c1]
    rw [c2] at h
    unfold clsP
    rw [if_neg hk, if_neg (by rw [h]; decide), if_pos h]
  · intro h
    have hl : a < X.T.length := by
      have := (List.getElem?_eq_some_iff.1 h).1
      rw [cls_len] at this
      exact this
    obtain ⟨c1, c2⟩ := cls_at hl
    rw [c1] at h
    injection h with h
    rw [c2]
    unfold clsP at h
    split at h
    · cases h
    · split at h
      · cases h
      · split at h
        · assumption
        · split at h
          · split at h
            · split at h <;> cases h
            · cases h
          · split at h
            · cases h
            · split at h <;> cases h
theorem now_prop {X : RdX} (hX : RzOk X) {a : Nat} (hl : a < X.T.length) (hk : X.T[a].kind = 1) {i : Nat} (hi : nameAt X.N (nowP X.T a) = some i) (h0 : opOf (nowP X.T a) = 0) : (clsL X.N X.T)[a]? = some (.prop i) := by
  obtain ⟨c1, c2⟩ := cls_at hl
  rw [c2] at hi h0
  rw [c1]
  obtain ⟨b1, b2⟩ := word_br (hX.ok.ti _ (List.getElem_mem hl) hk)
  unfold clsP
  rw [if_neg (by omega), if_neg b1, if_neg b2, if_pos h0, if_pos hk, hi]
theorem cls_prop {X : RdX} {a i : Nat} (h : (clsL X.N X.T)[a]? = some (.prop i)) : ∃ hl : a < X.T.length, X.T[a].kind = 1 ∧ nameAt X.N (nowP X.T a) = some i := by
  have hl : a < X.T.length := by
    have := (List.getElem?_eq_some_iff.1 h).1
    rw [cls_len] at this
    exact this
  obtain ⟨c1, c2⟩ := cls_at hl
  rw [c1] at h
  injection h with h
  refine ⟨hl, ?_⟩
  rw [c2]
  unfold clsP at h
  split at h
  · cases h
  · split at h
    · cases h
    · split at h
      · cases h
      · split at h
        · split at h
          · rename_i hk
            split at h
            · rename_i j hj
              injection h with h
              subst h
              exact ⟨hk, hj⟩
            · cases h
          · cases h
        · split at h
          · cases h
          · split at h <;> cases h
def RzP (X : RdX) (R : Res) (w : World) (a : Nat) (e : Ending) (w' : World) : Prop := match R with
  | .ok t r => ∃ oa oc, e = .returned (.slice oa t.post.length oc) ∧ OwnR w' w.heap.size TNd 2 oa t.post.length oc (pcells t.post) ∧ RzS X w' (X.T.length - r.length) 0 0 ∧ Keeps w w' (fun j => j = X.g)
  | .no r => ∃ oa oc on O a', e = .returned (.slice oa on oc) ∧ (on = O.length ∧ OwnR w' w.heap.size TNd 2 oa on oc (pcells O)) ∧ on + a ≤ a' ∧ a' + a ≤ 2 * X.T.length ∧ RzS X w' a' (stopAt X (X.T.length - r.length)).1 (stopAt X (X.T.length - r.length)).2 ∧ Keeps w w' (fun j => j = X.g)
def RzLeaf (X : RdX) (n : Nat) : Prop := ∀ (R : Res) (a : Nat) (w : World), prs n .leaf ((clsL X.N X.T).drop a) = some R → a ≤ X.T.length → RzS X w a 0 0 → Calls Tryz.prog 35 #[.pointer (some ⟨X.g, 0, none⟩)] w (RzP X R w a)
def RzJoint (X : RdX) (n : Nat) : Prop := ∀ (m : Nat) (R : Res) (a : Nat) (w : World), 1 ≤ m → m ≤ 5 → prs n (modeM m) ((clsL X.N X.T).drop a) = some R → a ≤ X.T.length → RzS X w a 0 0 → Calls Tryz.prog 16 #[.pointer (some ⟨X.g, 0, none⟩), .int .i64 (m : Int)] w (RzP X R w a)
theorem now_level {X : RdX} (hX : RzOk X) {a k : Nat} (hk : 1 ≤ k) (hk4 : k ≤ 4) : (levelP (nowP X.T a) = k → ∃ op, opOf (nowP X.T a) = op ∧ (clsL X.N X.T)[a]? = some (.bin op) ∧ bindsP op = k) ∧ (levelP (nowP X.T a) ≠ k → signOp (clsL X.N X.T)[a]? k = 0) := by
  refine ⟨fun h => ?_, fun h => ?_⟩
  · rw [level_op] at h
    by_cases h2 : takesP (opOf (nowP X.T a)) = 2
    · rw [if_pos h2] at h
      have h0 : opOf (nowP X.T a) ≠ 0 := fun e => by rw [e] at h2; cases h2
      obtain ⟨_, hc⟩ := now_op hX h0
      rw [if_neg (by omega), if_neg (by omega)] at hc
      exact ⟨_, rfl, hc, h⟩
    · rw [if_neg h2] at h
      omega
  · unfold signOp
    split
    · rename_i op hc
      have h0 := clsz_op hX hc (.inr (.inr ⟨op, rfl⟩))
      obtain ⟨_, hc2⟩ := now_op hX h0
      rw [hc] at hc2
      injection hc2 with hc2
      have h3 : op = opOf (nowP X.T a) ∧ takesP (opOf (nowP X.T a)) = 2 := by
        have hg := clsL_good X.N X.T _ (List.mem_of_getElem? hc)
        split at hc2
        · cases hc2
        · split at hc2
          · cases hc2
          · injection hc2 with e
            rw [← e]
            exact ⟨rfl, hg⟩
      rw [level_op, if_pos h3.2, ← h3.1] at h
      rw [if_neg h]
    · rfl
end Go.Proofs.YtkehfolcfcbplaaGreatDoor
