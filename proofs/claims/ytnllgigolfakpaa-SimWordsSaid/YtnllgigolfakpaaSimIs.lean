/- The walk of sim.Is. Conditions: the bounds that an argument brings along. -/
import Derived.Test.YtnllgigolfakpaaSimIsSt
import Derived.Test.YtnllgigolfakpaaAutoChk3
import Derived.Deep.RegionHeld3
import Derived.Deep.RegionWith
import Derived.StillTailTactics
namespace Go.Proofs.Ytnllgigolfakpaa
open Go.RowKit

/-- whether rows are a simulation -/
def GivesIs (W : World) (A : AU) (L : List (List Bool)) (e : Ending) (w' : World) : Prop := ∃ b, e = .returned (.bool b) ∧ (b = true ↔ IsP A L) ∧ Below W.heap.size W w'
theorem gives_no {W w' : World} {A : AU} {L : List (List Bool)} (h : ¬ IsP A L) (hb : Below W.heap.size W w') : GivesIs W A L (.returned (.bool false)) w' := ⟨false, rfl, ⟨fun e => (Bool.false_ne_true e).elim, fun e => absurd e h⟩, hb⟩
theorem fn_get {L : List (List Bool)} {i k : Nat} (hi : i < L.length) (hk : k < L[i].length) : fnOf L i k = L[i][k] := by
  have e : L.getD i [] = L[i] := by simp [List.getD, List.getElem?_eq_getElem hi]
  unfold fnOf
  rw [e]
  simp [List.getD, List.getElem?_eq_getElem hk]
theorem folB_congr {R S : Nat → Nat → Bool} {n : Nat} (h : ∀ i k, i < n → k < n → R i k = S i k) {x y : AN} (hx : ∀ t ∈ x.to, 0 ≤ t ∧ t < (n : Int)) (hy : ∀ t ∈ y.to, 0 ≤ t ∧ t < (n : Int)) : folB R x y = folB S x y := by
  cases hs : folB S x y with
  | true => exact folB_mono (fun i k hi hk e => by rw [h i k hi hk]; exact e) hx hy hs
  | false =>
    cases hr : folB R x y with
    | false => rfl
    | true => rw [folB_mono (fun i k hi hk e => by rw [← h i k hi hk]; exact e) hx hy hr] at hs; cases hs

structure IsSt (W wr : World) (g : Nat) (A : AU) (ai an : Option Addr) (ci cn : Nat) (R : Nat → Nat → Bool) : Prop where
  mat : MatAt wr g A.nodes.length R
  row : RowAt wr W.heap.size AUT [.int .i64 A.sets, .slice ai A.init.length ci, .slice an A.nodes.length cn]
  num : RowAt wr (W.heap.size + 1) 3 [.int .i64 (A.nodes.length : Int)]
  low : Below W.heap.size W wr
  hg : W.heap.size + 1 < g
theorem IsSt.below {W wr w' : World} {g : Nat} {A : AU} {ai an : Option Addr} {ci cn : Nat} {R : Nat → Nat → Bool} (h : IsSt W wr g A ai an ci cn R) (hb : Below wr.heap.size wr w') : IsSt W w' g A ai an ci cn R :=
  ⟨h.mat.below hb, h.row.below hb, h.num.below hb, btrans h.low hb, h.hg⟩

set_option maxRecDepth 10000 in
set_option maxHeartbeats 8000000 in
theorem is_any (W : World) (ai an : Option Addr) (ci cn : Nat) (A : AU) (h : AuAt W ai A.init.length an A.nodes.length A) (ok : AuOk A) (a : Option Addr) (c : Nat) (L : List (List Bool)) (hL : RowsAt W a L) (hll : L.length ≤ 1000000) (hlr : ∀ l ∈ L, l.length ≤ 140737488355328) :
    Calls Try.prog 13 #[.agg #[.int .i64 A.sets, .slice ai A.init.length ci, .slice an A.nodes.length cn], .slice a L.length c] W (GivesIs W A L) := by
  clear hlr
  have hb0 : Below W.heap.size W ((W.alloc (.cells #[.int .i64 A.sets, .slice ai A.init.length ci, .slice an A.nodes.length cn] AUT)).alloc (.cells #[.int .i64 (A.nodes.length : Int)] 3)) := balloc (balloc (Below.refl _ _) _) _
  have r1 := Lib.hid ((RowAt.new (w := W) (T := AUT) #[.int .i64 A.sets, .slice ai A.init.length ci, .slice an A.nodes.length cn] rfl).alloc (.cells #[.int .i64 (A.nodes.length : Int)] 3))
  have r2 := Lib.hid (RowAt.new (w := W.alloc (.cells #[.int .i64 A.sets, .slice ai A.init.length ci, .slice an A.nodes.length cn] AUT)) (T := 3) (n := W.heap.size + 1) #[.int .i64 (A.nodes.length : Int)] (by simp))
  have CK := check_any _ ai an ci cn A (h.below hb0) ok
  by_cases hc : chk A ≠ 0
  · have hcb : (chk A != 0) = true := by simpa using hc
    have hD : Hid (¬ IsP A L) := fun e => hc e.1
    generalize chk A = why at hcb CK
    replace CK := Lib.hid CK
    clear hc h ok
    go_enter Try.func13, Try.ntmps13
    go_wp2_with fail
    refine CK.out.mono ?_
    rintro e w1 ⟨rfl, hb1⟩
    go_wp2
    go_ret
    exact gives_no hD.out (btrans hb0 hb1)
  have hc : chk A = 0 := by simpa using hc
  rw [hc] at CK
  have hn := (chk_good hc).1
  by_cases hln : L.length = A.nodes.length
  case neg =>
    have hD : Hid (¬ IsP A L) := fun e => hln e.2.1
    have hne : ((L.length : Int) != (A.nodes.length : Int)) = true := bne_iff_ne.2 (by omega)
    have hne2 : ((L.length : Int) == (A.nodes.length : Int)) = false := by simp; omega
    replace CK := Lib.hid CK
    clear hc h ok hln hn
    go_enter Try.func13, Try.ntmps13
    go_wp2_with fail
    refine CK.out.mono ?_
    rintro e w1 ⟨rfl, hb1⟩
    have s2 := r2.out.below hb1
    have n0 : w1.cell? ⟨W.heap.size + 1, 0, none⟩ = some (.int .i64 (A.nodes.length : Int)) := s2.cell 0
    go_wp2
    go_ret
    exact gives_no hD.out (btrans hb0 hb1)
  have hne : ((L.length : Int) != (A.nodes.length : Int)) = false := by simp [hln]
  have hne2 : ((L.length : Int) == (A.nodes.length : Int)) = true := by simp [hln]
  have HAS := fun w' (hb : Below W.heap.size W w') (hc : w'.cell? ⟨W.heap.size + 1, 0, none⟩ = some (.int .i64 (A.nodes.length : Int))) => haslen_any w' a c (W.heap.size + 1) A.nodes.length L (hL.below hb) (by omega) hc
  replace hln := Lib.hid hln
  cases hbad : L.any (badL A.nodes.length) with
  | true =>
    rw [hbad] at HAS
    have hD : Hid (¬ IsP A L) := fun e => by
      rw [List.any_eq_true] at hbad
      obtain ⟨l, h1, h2⟩ := hbad
      unfold badL at h2
      have := e.2.2.1 l h1
      simp [this] at h2
    replace CK := Lib.hid CK
    replace HAS := Lib.hid HAS
    clear hc h ok hn hbad
    go_enter Try.func13, Try.ntmps13
    go_wp2_with fail
    refine CK.out.mono ?_
    rintro e w1 ⟨rfl, hb1⟩
    have s2 := r2.out.below hb1
    have n0 : w1.cell? ⟨W.heap.size + 1, 0, none⟩ = some (.int .i64 (A.nodes.length : Int)) := s2.cell 0
    have hbw := btrans hb0 hb1
    have H1 := Lib.hid (HAS.out w1 hbw n0)
    go_wp2_with fail
    refine H1.out.mono ?_
    rintro e w2 ⟨rfl, m, rfl⟩
    go_wp2
    go_ret
    exact gives_no hD.out (bdrewN hbw m)
  | false =>
    rw [hbad] at HAS
    have hrl : Hid (∀ i (hi : i < L.length), L[i].length = A.nodes.length) := fun i hi => by
      rw [List.any_eq_false] at hbad
      have h1 := hbad L[i] (List.getElem_mem hi)
      unfold badL at h1
      simpa using h1
    have FOL := Lib.hid (fun wr (hb : Below W.heap.size W wr) g (R : Nat → Nat → Bool) (hm : MatAt wr g A.nodes.length R) i k hi hk => follows_any wr ai an A.init.length ci cn A (h.nodes.below hb) ok hc g A.nodes.length R hm i k hi hk)
    have hn2 : (A.nodes.length : Int) ≤ 256 := by omega
    have hsn : Hid (A.sets = ((sN A : Nat) : Int) ∧ sN A ≤ 16) := by
      have h1 := chk_good hc
      unfold sN
      exact ⟨by omega, by omega⟩
    replace CK := Lib.hid CK
    replace HAS := Lib.hid HAS
    replace hc := Lib.hid hc
    replace hn := Lib.hid hn
    replace hb0 := Lib.hid hb0
    replace hL := Lib.hid hL
    have HA := Lib.hid h
    clear h hbad
    go_enter Try.func13, Try.ntmps13
    go_wp2_with fail
    refine CK.out.mono ?_
    rintro e w1 ⟨rfl, hb1⟩
    have s1 := r1.out.below hb1
    have s2 := r2.out.below hb1
    have n0 : w1.cell? ⟨W.heap.size + 1, 0, none⟩ = some (.int .i64 (A.nodes.length : Int)) := s2.cell 0
    have hbw := btrans hb0.out hb1
    have H1 := Lib.hid (HAS.out w1 hbw n0)
    replace s1 := Lib.hid s1
    replace s2 := Lib.hid s2
    replace hbw := Lib.hid hbw
    clear CK HAS hb1
    go_wp2_with fail
    refine H1.out.mono ?_
    rintro e w2 ⟨rfl, m, rfl⟩
    have n1 : (w1.drewN m).cell? ⟨W.heap.size + 1, 0, none⟩ = some (.int .i64 (A.nodes.length : Int)) := n0
    have hz1 : W.heap.size + 1 < w1.heap.size := s2.out.lt
    clear H1 n0
    go_wp2_with (at_make; refine wp_makeM rfl _ _ rfl A.nodes.length rfl rfl hn.out ?_)
    intro w3 hM hg3 hz3
    have hM' : MatAt w3 w1.heap.size A.nodes.length (fun _ _ => false) := hM
    have hk3 : Keeps (w1.drewN m) w3 (fun _ => False) := Keeps.of_grown hg3 (by intro j hj; cases hj)
    have st0 : Hid (IsSt W w3 w1.heap.size A ai an ci cn (fun _ _ => false)) := ⟨hM', (s1.out.drewN m).keeps hk3 (fun h => h), (s2.out.drewN m).keeps hk3 (fun h => h), bgrown (bdrewN hbw.out m) hg3 (by intro k hk; cases hk), hz1⟩
    have n3 : w3.cell? ⟨W.heap.size + 1, 0, none⟩ = some (.int .i64 (A.nodes.length : Int)) := st0.out.num.cell 0
    obtain ⟨g, hg⟩ : ∃ g, g = w1.heap.size := ⟨_, rfl⟩
    have hgg : Hid ((w1.drewN m).heap.size = g) := by show _ = _; rw [hg]; rfl
    rw [← hg] at st0
    try rw [hgg.out]
    try rw [← hg]
    clear hM hM' hk3 hg3 hz3 n1 hgg hg hz1 s1 s2 hbw
    go_wp2
    replace hll := Lib.hid hll
    clear hne hne2 n3 r1 r2
    go_loopw [30] (fun iv wr => ∃ (i : Nat) (R : Nat → Nat → Bool), i ≤ A.nodes.length ∧ iv = .int .i64 i ∧ IsSt W wr g A ai an ci cn R ∧ Hid (∀ i' k', i' < i → k' < A.nodes.length → R i' k' = fnOf L i' k')) (fun iv _ => A.nodes.length - (intOf iv).toNat)
    case atStart => exact ⟨0, _, Nat.zero_le _, rfl, st0.out, fun i' k' h => by omega⟩
    case round =>
      obtain ⟨i, R, hi, rfl, st, hdone⟩ := hrel
      clear st0
      by_cases hin : i < A.nodes.length
      · have hin2 : (i : Int) < (A.nodes.length : Int) := by omega
        have hiL : i < L.length := by have := hln.out; omega
        have hiL2 : (i : Int) < (L.length : Int) := by omega
        obtain ⟨ba, oa, al, cl, haa, cx, hbl⟩ := (hL.out.below st.low).at i hiL
        have hll2 := hrl.out i hiL
        have hst : Hid (∀ i' k', i' < i + 1 → k' < A.nodes.length → cpy R i L[i] i' k' = fnOf L i' k') := fun i' k' h1 h2 => by
          unfold cpy
          by_cases he : i' = i ∧ k' < L[i].length
          · rw [if_pos he]
            obtain ⟨rfl, hk⟩ := he
            rw [fn_get hiL hk]
            simp [List.getD, List.getElem?_eq_getElem hk]
          · rw [if_neg he]
            exact hdone.out i' k' (by omega) h2
        obtain ⟨cur, m1, m2, m3⟩ := st.mat
        obtain ⟨cul, hcul⟩ : ∃ cul : List Value, cul = cur.toList := ⟨_, rfl⟩
        have m1' : wr.heap[g]? = some (.cells cul.toArray TRow (0, 0)) := by rw [hcul]; exact m1
        have m2' : cul.length = A.nodes.length * 256 := by rw [hcul]; simpa using m2
        have m3' : ∀ i k, i < A.nodes.length → k < 256 → cul[i * 256 + k]? = some (.bool (R i k)) := fun i k h1 h2 => by rw [hcul]; simpa using m3 i k h1 h2
        generalize L[i] = l at cx hbl hll2 hst
        have hlen : Hid (l.length = A.nodes.length) := hll2
        have hcs : Hid ((l.map Value.bool).length = Nat.min l.length 256) := by
          show _ = _
          rw [List.length_map]
          exact (Nat.min_eq_left (by have := hn.out; omega)).symm
        have hpos : Hid (0 < (l.map Value.bool).length → (some (⟨g, i * 256, none⟩ : Addr)) = some ⟨g, i * 256, none⟩ ∧ ∃ ad, al = some ad ∧ ∀ j v, (l.map Value.bool)[j]? = some v → wr.drew.cell? (ad.add j) = some v) := fun h0 => by
          rw [List.length_map] at h0
          obtain ⟨b2, o2, hal, hc2⟩ := hbl h0
          refine ⟨rfl, _, hal, fun j v hv => ?_⟩
          have hlt : j < l.length := by
            have := (List.getElem?_eq_some_iff.1 hv).1
            simpa using this
          rw [add_off]
          have h3 := hc2 j hlt
          have h4 : wr.drew.cell? ⟨b2, o2 + j, none⟩ = some (.bool (l.getD j false)) := h3
          rw [h4, ← hv]
          simp [List.getD, List.getElem?_eq_getElem hlt]
        have hfit : Hid (i * 256 + (l.map Value.bool).length ≤ cul.length) := by show _ ≤ _; rw [List.length_map]; have := hn.out; omega
        have hone : Hid (∀ v ∈ l.map Value.bool, v.oneCell' = true) := fun v hv => by
          obtain ⟨z, _, rfl⟩ := List.mem_map.1 hv
          rfl
        have hgl := st.mat.lt
        have hszB : (Try.prog.info? TB).map (·.size) = some 1 := by kernel_rfl
        have m1d : Hid (wr.drew.heap[g]? = some (.cells cul.toArray TRow (0, 0))) := m1'
        have hmc : Hid (∀ w' : World, w'.heap[g]? = some (.cells (splice cul (i * 256) (l.map .bool)).toArray TRow (0, 0)) → MatAt w' g A.nodes.length (cpy R i l)) := fun w' hh => mat_copy m2' m3' hin (by have := hn.out; omega) hh
        have hbd : Hid (Below g wr wr.drew) := (Below.refl _ _).drew
        have hgL : (i : Int) < 257 := by omega
        subst haa
        replace st := Lib.hid st
        clear m1 m2 m3 hcul m1' m2' m3' hbl hll2 hdone
        replace hszB := Lib.hid hszB
        go_wp2
        go_still_tail 8, (by kernel_rfl)
        change wpList _ _ _ _ _ wr.drew
        refine wpList_copy_splice rfl _ _ 32 32 rfl TB Try.underlying32 hszB.out (some ⟨g, i * 256, none⟩) al 256 256 l.length cl rfl rfl g (i * 256) cul TRow m1d.out (l.map .bool) hcs.out (fun h0 => ⟨rfl, (hpos.out h0).2⟩) hfit.out hone.out g wr hbd.out (Nat.le_refl _) ?_
        intro w9 hg9 hb9
        have st9 : Hid (IsSt W w9 g A ai an ci cn (cpy R i l)) := by
          have h1 := st.out.hg
          exact ⟨hmc.out w9 hg9.out, st.out.row.keep (hb9.block _ (by omega)), st.out.num.keep (hb9.block _ (by omega)), ⟨hb9.os.trans st.out.low.os, hb9.tape.trans st.out.low.tape, hb9.output.trans st.out.low.output, Nat.le_trans st.out.low.size hb9.size, fun j hj => (hb9.block j (by omega)).trans (st.out.low.block j hj)⟩, h1⟩
        clear hg9 hb9 hmc hbd m1d hpos hcs hfit hone hszB cx
        go_wp2
        go_roundw
        case rel => exact ⟨i + 1, _, by omega, by go_num, st9.out, hst⟩
        case measure => simp [intOf]; omega
      · obtain rfl : i = A.nodes.length := by omega
        have hag : Hid (∀ i' k', i' < A.nodes.length → k' < A.nodes.length → R i' k' = fnOf L i' k') := hdone.out
        have n3 : wr.cell? ⟨W.heap.size + 1, 0, none⟩ = some (.int .i64 (A.nodes.length : Int)) := st.num.cell 0
        replace st := Lib.hid st
        clear hin hdone
        go_wp2
        have hdec : Hid (∀ i' k', i' < A.nodes.length → k' < A.nodes.length → folB R (nd A i') (nd A k') = folB (fnOf L) (nd A i') (nd A k')) := fun i' k' h1 h2 => folB_congr hag.out (nd_to hc.out h1) (nd_to hc.out h2)
        clear n3
        go_loopw [4, 44] (fun bv iv wr => ∃ i : Nat, i ≤ A.nodes.length ∧ iv = .int .i64 i ∧ bv = .bool false ∧ IsSt W wr g A ai an ci cn R ∧ Hid (∀ i' k', i' < i → k' < A.nodes.length → fnOf L i' k' = true → aloB (sN A) (nd A i') (nd A k') = true ∧ folB (fnOf L) (nd A i') (nd A k') = true)) (fun _ iv _ => A.nodes.length - (intOf iv).toNat)
        case atStart => exact ⟨0, Nat.zero_le _, rfl, rfl, st.out, fun i' k' h => by omega⟩
        case round =>
          obtain ⟨i, hi, rfl, rfl, st, hdone⟩ := hrel
          by_cases hin : i < A.nodes.length
          · have hin2 : (i : Int) < (A.nodes.length : Int) := by omega
            have n3 : wr.cell? ⟨W.heap.size + 1, 0, none⟩ = some (.int .i64 (A.nodes.length : Int)) := st.num.cell 0
            replace st := Lib.hid st
            go_wp2
            go_loopw [4, 48] (fun bv kv wr => ∃ k : Nat, k ≤ A.nodes.length ∧ kv = .int .i64 k ∧ bv = .bool false ∧ IsSt W wr g A ai an ci cn R ∧ Hid (∀ k', k' < k → fnOf L i k' = true → aloB (sN A) (nd A i) (nd A k') = true ∧ folB (fnOf L) (nd A i) (nd A k') = true)) (fun _ kv _ => A.nodes.length - (intOf kv).toNat)
            case atStart => exact ⟨0, Nat.zero_le _, rfl, rfl, st.out, fun k' h => by omega⟩
            case round =>
              obtain ⟨k, hk, rfl, rfl, sk, hrow⟩ := hrel
              clear n3
              by_cases hkn : k < A.nodes.length
              · have hkn2 : (k : Int) < (A.nodes.length : Int) := by omega
                have hiL : i < L.length := by have := hln.out; omega
                have hiL2 : (i : Int) < (L.length : Int) := by have := hln.out; omega
                have hrl1 := hrl.out i hiL
                have hkL2 : (k : Int) < (L[i].length : Int) := by omega
                obtain ⟨ba, oa, al, cl, haa, cx, hbl⟩ := (hL.out.below sk.low).at i hiL
                obtain ⟨b2, o2, hal, cv⟩ := hbl.at k (by omega)
                rw [← fn_get hiL (by omega)] at cv
                cases hv : fnOf L i k with
                | false =>
                  rw [hv] at cv
                  have hrow2 : Hid (∀ k', k' < k + 1 → fnOf L i k' = true → aloB (sN A) (nd A i) (nd A k') = true ∧ folB (fnOf L) (nd A i) (nd A k') = true) := fun k' h1 h2 => by
                    rcases Nat.lt_succ_iff_lt_or_eq.1 h1 with h3 | rfl
                    · exact hrow.out k' h3 h2
                    · rw [hv] at h2; cases h2
                  generalize L[i] = l at cx hbl hrl1 hkL2
                  subst haa
                  subst hal
                  replace sk := Lib.hid sk
                  clear hv hbl hrl1
                  go_wp2
                  go_quiet (fail)
                  have s9 : Hid (IsSt W (wr.drewN nq) g A ai an ci cn R) := sk.out.below (bdrewN (Below.refl _ _) nq)
                  go_wp2
                  go_roundw
                  case rel => exact ⟨k + 1, by omega, by go_num, rfl, s9.out, hrow2⟩
                  case measure => simp [intOf]; omega
                | true =>
                  rw [hv] at cv
                  have hx : okN A.nodes[i] := ⟨(ok.nodes _ (List.getElem_mem hin)).1, (ok.nodes _ (List.getElem_mem hin)).2.1, (ok.nodes _ (List.getElem_mem hin)).2.2.1⟩
                  have hy : okN A.nodes[k] := ⟨(ok.nodes _ (List.getElem_mem hkn)).1, (ok.nodes _ (List.getElem_mem hkn)).2.1, (ok.nodes _ (List.getElem_mem hkn)).2.2.1⟩
                  have CA := fun w' vx vy => alone_any2 w' A.nodes[i] A.nodes[k] vx vy hx hy A.sets (sN A) hsn.out.1 hsn.out.2
                  have FW := fun w' (hb : Below W.heap.size W w') (hm : MatAt w' g A.nodes.length R) => FOL.out w' hb g R hm i k hin hkn
                  rw [← nd_get hin, ← nd_get hkn] at CA
                  obtain ⟨b1, o1, hab, p0, p1, p2, ax, cx1, p3, _⟩ := (HA.out.nodes.below sk.low).at i hin
                  obtain ⟨b3, o3, hab2, q0, q1, q2, ay, cy, q3, _⟩ := (HA.out.nodes.below sk.low).at k hkn
                  rw [hab] at hab2
                  cases hab2
                  rw [← nd_get hin] at p0 p1 p2 p3
                  rw [← nd_get hkn] at q0 q1 q2 q3
                  have hnot : Hid (aloB (sN A) (nd A i) (nd A k) = false ∨ folB R (nd A i) (nd A k) = false → ¬ IsP A L) := fun hor hp => by
                    obtain ⟨h1, h2⟩ := hp.2.2.2 i k hin hkn hv
                    rw [← hdec.out i k hin hkn] at h2
                    rcases hor with h3 | h3
                    · rw [h1] at h3; cases h3
                    · rw [h2] at h3; cases h3
                  have hyes : Hid (aloB (sN A) (nd A i) (nd A k) = true → folB R (nd A i) (nd A k) = true → ∀ k', k' < k + 1 → fnOf L i k' = true → aloB (sN A) (nd A i) (nd A k') = true ∧ folB (fnOf L) (nd A i) (nd A k') = true) := fun ha hf k' h1 h2 => by
                    rcases Nat.lt_succ_iff_lt_or_eq.1 h1 with h3 | rfl
                    · exact hrow.out k' h3 h2
                    · exact ⟨ha, by rw [← hdec.out i k' hin hkn]; exact hf⟩
                  obtain ⟨av, hav⟩ : ∃ av, av = aloB (sN A) (nd A i) (nd A k) := ⟨_, rfl⟩
                  obtain ⟨fv, hfv⟩ : ∃ fv, fv = folB R (nd A i) (nd A k) := ⟨_, rfl⟩
                  rw [← hav] at CA hnot hyes
                  rw [← hfv] at FW hnot hyes
                  replace hav := Lib.hid hav
                  replace hfv := Lib.hid hfv
                  obtain ⟨x, hxe⟩ : ∃ x, x = nd A i := ⟨_, rfl⟩
                  obtain ⟨y, hye⟩ : ∃ y, y = nd A k := ⟨_, rfl⟩
                  rw [← hxe] at CA p0 p1 p2 p3
                  rw [← hye] at CA q0 q1 q2 q3
                  replace hxe := Lib.hid hxe
                  replace hye := Lib.hid hye
                  obtain ⟨xn, xb, xi, xt⟩ := x
                  obtain ⟨yn, yb, yi, yt⟩ := y
                  simp only at CA p0 p1 p2 p3 q0 q1 q2 q3
                  generalize L[i] = l at cx hbl hrl1 hkL2
                  subst haa
                  subst hal
                  have a0 : wr.cell? ⟨W.heap.size, 0, none⟩ = some (.int .i64 A.sets) := sk.row.cell 0
                  have a1 : wr.cell? ⟨W.heap.size, 1, none⟩ = some (.slice ai A.init.length ci) := sk.row.cell 1
                  have a2 : wr.cell? ⟨W.heap.size, 2, none⟩ = some (.slice an A.nodes.length cn) := sk.row.cell 2
                  rw [hab] at a2
                  have SB : Hid (∀ w', Below wr.heap.size wr w' → w'.cell? ⟨ba, oa + i, none⟩ = some (.slice (some ⟨b2, o2, none⟩) l.length cl) ∧ w'.cell? ⟨b2, o2 + k, none⟩ = some (.bool true) ∧ w'.cell? ⟨W.heap.size, 0, none⟩ = some (.int .i64 A.sets) ∧ w'.cell? ⟨W.heap.size, 1, none⟩ = some (.slice ai A.init.length ci) ∧ w'.cell? ⟨W.heap.size, 2, none⟩ = some (.slice (some ⟨b1, o1, none⟩) A.nodes.length cn) ∧ w'.cell? ⟨b1, o1 + i * 4, none⟩ = some (.int .u64 xn) ∧ w'.cell? ⟨b1, o1 + i * 4 + 1, none⟩ = some (.int .u64 xb) ∧ w'.cell? ⟨b1, o1 + i * 4 + 2, none⟩ = some (.int .u64 xi) ∧ w'.cell? ⟨b1, o1 + i * 4 + 3, none⟩ = some (.slice ax xt.length cx1) ∧ w'.cell? ⟨b1, o1 + k * 4, none⟩ = some (.int .u64 yn) ∧ w'.cell? ⟨b1, o1 + k * 4 + 1, none⟩ = some (.int .u64 yb) ∧ w'.cell? ⟨b1, o1 + k * 4 + 2, none⟩ = some (.int .u64 yi) ∧ w'.cell? ⟨b1, o1 + k * 4 + 3, none⟩ = some (.slice ay yt.length cy)) :=
                    fun w' h => ⟨bcell h cx, bcell h cv, bcell h a0, bcell h a1, bcell h a2, bcell h p0, bcell h p1, bcell h p2, bcell h p3, bcell h q0, bcell h q1, bcell h q2, bcell h q3⟩
                  replace CA := Lib.hid CA
                  replace FW := Lib.hid FW
                  replace sk := Lib.hid sk
                  subst hab
                  clear hx hy hbl hrl1 hv
                  cases av with
                  | false =>
                    have hno := Lib.hid (hnot.out (.inl rfl))
                    clear FW hnot hyes
                    go_wp2
                    refine wp_region_held_drew (S := (fun w' => w'.cell? ⟨ba, oa + i, none⟩ = some (.slice (some ⟨b2, o2, none⟩) l.length cl) ∧ w'.cell? ⟨b2, o2 + k, none⟩ = some (.bool true) ∧ w'.cell? ⟨W.heap.size, 0, none⟩ = some (.int .i64 A.sets) ∧ w'.cell? ⟨W.heap.size, 1, none⟩ = some (.slice ai A.init.length ci) ∧ w'.cell? ⟨W.heap.size, 2, none⟩ = some (.slice (some ⟨b1, o1, none⟩) A.nodes.length cn) ∧ w'.cell? ⟨b1, o1 + i * 4, none⟩ = some (.int .u64 xn) ∧ w'.cell? ⟨b1, o1 + i * 4 + 1, none⟩ = some (.int .u64 xb) ∧ w'.cell? ⟨b1, o1 + i * 4 + 2, none⟩ = some (.int .u64 xi) ∧ w'.cell? ⟨b1, o1 + i * 4 + 3, none⟩ = some (.slice ax xt.length cx1) ∧ w'.cell? ⟨b1, o1 + k * 4, none⟩ = some (.int .u64 yn) ∧ w'.cell? ⟨b1, o1 + k * 4 + 1, none⟩ = some (.int .u64 yb) ∧ w'.cell? ⟨b1, o1 + k * 4 + 2, none⟩ = some (.int .u64 yi) ∧ w'.cell? ⟨b1, o1 + k * 4 + 3, none⟩ = some (.slice ay yt.length cy))) (by kernel_rfl) ⟨cx, cv, a0, a1, a2, p0, p1, p2, p3, q0, q1, q2, q3⟩ (fun hHeld => ?_)
                    refine wpAnyH_take (i := 0) (oi := ({ dst := some 51, op := Go.Op.move (Go.Operand.tmp 1), type := 29, pos := "sim.go:77", after := #[], guard := none } : Oper)) (v := ?_) rfl (by kernel_rfl) (by kernel_rfl) (by kernel_rfl) (fun _ _ _ h => h) (Or.inl ⟨by rfl, ?_⟩) (by assumption) ?_
                    case refine_2 => (intro w hSw; (try dsimp only at hSw); go_simp; try with_reducible rfl)
                    try simp only [Act.put, List.setIfInBounds_toArray, List.set_cons_zero, List.set_cons_succ]
                    refine wpAnyH_take (i := 1) (oi := ({ dst := some 52, op := Go.Op.move (Go.Operand.tmp 8), type := 3, pos := "sim.go:77", after := #[], guard := none } : Oper)) (v := ?_) rfl (by kernel_rfl) (by kernel_rfl) (by kernel_rfl) (fun _ _ _ h => h) (Or.inl ⟨by rfl, ?_⟩) (by assumption) ?_
                    case refine_2 => (intro w hSw; (try dsimp only at hSw); go_simp; try with_reducible rfl)
                    try simp only [Act.put, List.setIfInBounds_toArray, List.set_cons_zero, List.set_cons_succ]
                    refine wpAnyH_take (i := 2) (oi := ({ dst := some 53, op := Go.Op.indexAddr 29 (Go.Operand.tmp 51) (Go.Operand.tmp 52), type := 0, pos := "sim.go:77", after := #[{ on := 0, ground := Go.Ground.data }, { on := 1, ground := Go.Ground.data }], guard := none } : Oper)) (v := ?_) rfl (by kernel_rfl) (by kernel_rfl) (by kernel_rfl) (fun _ _ _ h => h) (Or.inl ⟨by rfl, ?_⟩) (by assumption) ?_
                    case refine_2 => (intro w hSw; (try dsimp only at hSw); go_simp; try with_reducible rfl)
                    try simp only [Act.put, List.setIfInBounds_toArray, List.set_cons_zero, List.set_cons_succ]
                    refine wpAnyH_take (i := 3) (oi := ({ dst := some 54, op := Go.Op.load 32 (Go.Operand.tmp 53), type := 32, pos := "sim.go:77", after := #[{ on := 2, ground := Go.Ground.data }], guard := none } : Oper)) (v := ?_) rfl (by kernel_rfl) (by kernel_rfl) (by kernel_rfl) (fun _ _ _ h => h) (Or.inl ⟨by rfl, ?_⟩) (by assumption) ?_
                    case refine_2 => (intro w hSw; (try dsimp only at hSw); go_simp; try with_reducible rfl)
                    try simp only [Act.put, List.setIfInBounds_toArray, List.set_cons_zero, List.set_cons_succ]
                    refine wpAnyH_take (i := 4) (oi := ({ dst := some 55, op := Go.Op.move (Go.Operand.tmp 9), type := 3, pos := "sim.go:77", after := #[], guard := none } : Oper)) (v := ?_) rfl (by kernel_rfl) (by kernel_rfl) (by kernel_rfl) (fun _ _ _ h => h) (Or.inl ⟨by rfl, ?_⟩) (by assumption) ?_
                    case refine_2 => (intro w hSw; (try dsimp only at hSw); go_simp; try with_reducible rfl)
                    try simp only [Act.put, List.setIfInBounds_toArray, List.set_cons_zero, List.set_cons_succ]
                    refine wpAnyH_take (i := 5) (oi := ({ dst := some 56, op := Go.Op.indexAddr 32 (Go.Operand.tmp 54) (Go.Operand.tmp 55), type := 0, pos := "sim.go:77", after := #[{ on := 3, ground := Go.Ground.data }, { on := 4, ground := Go.Ground.data }], guard := none } : Oper)) (v := ?_) rfl (by kernel_rfl) (by kernel_rfl) (by kernel_rfl) (fun _ _ _ h => h) (Or.inl ⟨by rfl, ?_⟩) (by assumption) ?_
                    case refine_2 => (intro w hSw; (try dsimp only at hSw); go_simp; try with_reducible rfl)
                    try simp only [Act.put, List.setIfInBounds_toArray, List.set_cons_zero, List.set_cons_succ]
                    refine wpAnyH_take (i := 6) (oi := ({ dst := some 57, op := Go.Op.load 4 (Go.Operand.tmp 56), type := 4, pos := "sim.go:77", after := #[{ on := 5, ground := Go.Ground.data }], guard := none } : Oper)) (v := ?_) rfl (by kernel_rfl) (by kernel_rfl) (by kernel_rfl) (fun _ _ _ h => h) (Or.inl ⟨by rfl, ?_⟩) (by assumption) ?_
                    case refine_2 => (intro w hSw; (try dsimp only at hSw); go_simp; try with_reducible rfl)
                    try simp only [Act.put, List.setIfInBounds_toArray, List.set_cons_zero, List.set_cons_succ]
                    refine wpAnyH_take (i := 7) (oi := ({ dst := some 58, op := Go.Op.move (Go.Operand.tmp 57), type := 4, pos := "sim.go:77", after := #[{ on := 6, ground := Go.Ground.data }], guard := none } : Oper)) (v := ?_) rfl (by kernel_rfl) (by kernel_rfl) (by kernel_rfl) (fun _ _ _ h => h) (Or.inl ⟨by rfl, ?_⟩) (by assumption) ?_
                    case refine_2 => (intro w hSw; (try dsimp only at hSw); go_simp; try with_reducible rfl)
                    try simp only [Act.put, List.setIfInBounds_toArray, List.set_cons_zero, List.set_cons_succ]
                    refine wpAnyH_take (i := 8) (oi := ({ dst := some 59, op := Go.Op.fieldAddr 25 (Go.Operand.tmp 2) 2, type := 0, pos := "sim.go:77", after := #[{ on := 7, ground := Go.Ground.guard }], guard := some (7, true) } : Oper)) (v := ?_) rfl (by kernel_rfl) (by kernel_rfl) (by kernel_rfl) (fun _ _ _ h => h) (Or.inl ⟨by rfl, ?_⟩) (by assumption) ?_
                    case refine_2 => (intro w hSw; (try dsimp only at hSw); go_simp; try with_reducible rfl)
                    try simp only [Act.put, List.setIfInBounds_toArray, List.set_cons_zero, List.set_cons_succ]
                    refine wpAnyH_take (i := 9) (oi := ({ dst := some 60, op := Go.Op.load 23 (Go.Operand.tmp 59), type := 23, pos := "sim.go:77", after := #[{ on := 8, ground := Go.Ground.data }, { on := 7, ground := Go.Ground.guard }], guard := some (7, true) } : Oper)) (v := ?_) rfl (by kernel_rfl) (by kernel_rfl) (by kernel_rfl) (fun _ _ _ h => h) (Or.inl ⟨by rfl, ?_⟩) (by assumption) ?_
                    case refine_2 => (intro w hSw; (try dsimp only at hSw); go_simp; try with_reducible rfl)
                    try simp only [Act.put, List.setIfInBounds_toArray, List.set_cons_zero, List.set_cons_succ]
                    refine wpAnyH_take (i := 10) (oi := ({ dst := some 61, op := Go.Op.move (Go.Operand.tmp 8), type := 3, pos := "sim.go:77", after := #[{ on := 7, ground := Go.Ground.guard }], guard := some (7, true) } : Oper)) (v := ?_) rfl (by kernel_rfl) (by kernel_rfl) (by kernel_rfl) (fun _ _ _ h => h) (Or.inl ⟨by rfl, ?_⟩) (by assumption) ?_
                    case refine_2 => (intro w hSw; (try dsimp only at hSw); go_simp; try with_reducible rfl)
                    try simp only [Act.put, List.setIfInBounds_toArray, List.set_cons_zero, List.set_cons_succ]
                    refine wpAnyH_take (i := 11) (oi := ({ dst := some 62, op := Go.Op.indexAddr 23 (Go.Operand.tmp 60) (Go.Operand.tmp 61), type := 0, pos := "sim.go:77", after := #[{ on := 9, ground := Go.Ground.data }, { on := 10, ground := Go.Ground.data }, { on := 7, ground := Go.Ground.guard }], guard := some (7, true) } : Oper)) (v := ?_) rfl (by kernel_rfl) (by kernel_rfl) (by kernel_rfl) (fun _ _ _ h => h) (Or.inl ⟨by rfl, ?_⟩) (by assumption) ?_
                    case refine_2 => (intro w hSw; (try dsimp only at hSw); go_simp; try with_reducible rfl)
                    try simp only [Act.put, List.setIfInBounds_toArray, List.set_cons_zero, List.set_cons_succ]
                    refine wpAnyH_take (i := 12) (oi := ({ dst := some 63, op := Go.Op.load 43 (Go.Operand.tmp 62), type := 43, pos := "sim.go:77", after := #[{ on := 11, ground := Go.Ground.data }, { on := 7, ground := Go.Ground.guard }], guard := some (7, true) } : Oper)) (v := ?_) rfl (by kernel_rfl) (by kernel_rfl) (by kernel_rfl) (fun _ _ _ h => h) (Or.inl ⟨by rfl, ?_⟩) (by assumption) ?_
                    case refine_2 => (intro w hSw; (try dsimp only at hSw); go_simp; try with_reducible rfl)
                    try simp only [Act.put, List.setIfInBounds_toArray, List.set_cons_zero, List.set_cons_succ]
                    refine wpAnyH_take (i := 13) (oi := ({ dst := some 64, op := Go.Op.fieldAddr 25 (Go.Operand.tmp 2) 2, type := 0, pos := "sim.go:77", after := #[{ on := 7, ground := Go.Ground.guard }], guard := some (7, true) } : Oper)) (v := ?_) rfl (by kernel_rfl) (by kernel_rfl) (by kernel_rfl) (fun _ _ _ h => h) (Or.inl ⟨by rfl, ?_⟩) (by assumption) ?_
                    case refine_2 => (intro w hSw; (try dsimp only at hSw); go_simp; try with_reducible rfl)
                    try simp only [Act.put, List.setIfInBounds_toArray, List.set_cons_zero, List.set_cons_succ]
                    refine wpAnyH_take (i := 14) (oi := ({ dst := some 65, op := Go.Op.load 23 (Go.Operand.tmp 64), type := 23, pos := "sim.go:77", after := #[{ on := 13, ground := Go.Ground.data }, { on := 7, ground := Go.Ground.guard }], guard := some (7, true) } : Oper)) (v := ?_) rfl (by kernel_rfl) (by kernel_rfl) (by kernel_rfl) (fun _ _ _ h => h) (Or.inl ⟨by rfl, ?_⟩) (by assumption) ?_
                    case refine_2 => (intro w hSw; (try dsimp only at hSw); go_simp; try with_reducible rfl)
                    try simp only [Act.put, List.setIfInBounds_toArray, List.set_cons_zero, List.set_cons_succ]
                    refine wpAnyH_take (i := 15) (oi := ({ dst := some 66, op := Go.Op.move (Go.Operand.tmp 9), type := 3, pos := "sim.go:77", after := #[{ on := 7, ground := Go.Ground.guard }], guard := some (7, true) } : Oper)) (v := ?_) rfl (by kernel_rfl) (by kernel_rfl) (by kernel_rfl) (fun _ _ _ h => h) (Or.inl ⟨by rfl, ?_⟩) (by assumption) ?_
                    case refine_2 => (intro w hSw; (try dsimp only at hSw); go_simp; try with_reducible rfl)
                    try simp only [Act.put, List.setIfInBounds_toArray, List.set_cons_zero, List.set_cons_succ]
                    refine wpAnyH_take (i := 16) (oi := ({ dst := some 67, op := Go.Op.indexAddr 23 (Go.Operand.tmp 65) (Go.Operand.tmp 66), type := 0, pos := "sim.go:77", after := #[{ on := 14, ground := Go.Ground.data }, { on := 15, ground := Go.Ground.data }, { on := 7, ground := Go.Ground.guard }], guard := some (7, true) } : Oper)) (v := ?_) rfl (by kernel_rfl) (by kernel_rfl) (by kernel_rfl) (fun _ _ _ h => h) (Or.inl ⟨by rfl, ?_⟩) (by assumption) ?_
                    case refine_2 => (intro w hSw; (try dsimp only at hSw); go_simp; try with_reducible rfl)
                    try simp only [Act.put, List.setIfInBounds_toArray, List.set_cons_zero, List.set_cons_succ]
                    refine wpAnyH_take (i := 17) (oi := ({ dst := some 68, op := Go.Op.load 43 (Go.Operand.tmp 67), type := 43, pos := "sim.go:77", after := #[{ on := 16, ground := Go.Ground.data }, { on := 7, ground := Go.Ground.guard }], guard := some (7, true) } : Oper)) (v := ?_) rfl (by kernel_rfl) (by kernel_rfl) (by kernel_rfl) (fun _ _ _ h => h) (Or.inl ⟨by rfl, ?_⟩) (by assumption) ?_
                    case refine_2 => (intro w hSw; (try dsimp only at hSw); go_simp; try with_reducible rfl)
                    try simp only [Act.put, List.setIfInBounds_toArray, List.set_cons_zero, List.set_cons_succ]
                    refine wpAnyH_take (i := 18) (oi := ({ dst := some 69, op := Go.Op.fieldAddr 25 (Go.Operand.tmp 2) 0, type := 0, pos := "sim.go:77", after := #[{ on := 7, ground := Go.Ground.guard }], guard := some (7, true) } : Oper)) (v := ?_) rfl (by kernel_rfl) (by kernel_rfl) (by kernel_rfl) (fun _ _ _ h => h) (Or.inl ⟨by rfl, ?_⟩) (by assumption) ?_
                    case refine_2 => (intro w hSw; (try dsimp only at hSw); go_simp; try with_reducible rfl)
                    try simp only [Act.put, List.setIfInBounds_toArray, List.set_cons_zero, List.set_cons_succ]
                    refine wpAnyH_take (i := 19) (oi := ({ dst := some 70, op := Go.Op.load 3 (Go.Operand.tmp 69), type := 3, pos := "sim.go:77", after := #[{ on := 18, ground := Go.Ground.data }, { on := 7, ground := Go.Ground.guard }], guard := some (7, true) } : Oper)) (v := ?_) rfl (by kernel_rfl) (by kernel_rfl) (by kernel_rfl) (fun _ _ _ h => h) (Or.inl ⟨by rfl, ?_⟩) (by assumption) ?_
                    case refine_2 => (intro w hSw; (try dsimp only at hSw); go_simp; try with_reducible rfl)
                    try simp only [Act.put, List.setIfInBounds_toArray, List.set_cons_zero, List.set_cons_succ]
                    refine wpAnyH_ready (rs := [20]) (by kernel_rfl) (by simp) ?_
                    refine AllReadyH.cons (o := ({ dst := some 71, op := Go.Op.call { callee := Go.Callee.value (Go.Operand.func 22), args := #[Go.Operand.tmp 63, Go.Operand.tmp 68, Go.Operand.tmp 70], argTypes := #[43, 43, 3] }, type := 4, pos := "sim.go:77", after := #[{ on := 12, ground := Go.Ground.data }, { on := 17, ground := Go.Ground.data }, { on := 19, ground := Go.Ground.data }, { on := 7, ground := Go.Ground.chain }, { on := 7, ground := Go.Ground.guard }], guard := some (7, true) } : Oper)) rfl (fun K hK => ?_) AllReadyH.nil
                    go_simp
                    go_at_call 22
                    (with_reducible refine (CA.out _ _ _).mono ?_)
                    rintro r wY ⟨rfl, hbY⟩
                    have hbY2 : Below wr.heap.size wr wY := ⟨hbY.os, hbY.tape, hbY.output, hbY.size, hbY.block⟩
                    clear hHeld
                    refine hK.out _ _ (SB.out _ hbY2) (fun hHeld => ?_)
                    clear hK K
                    try simp only [Act.put, List.setIfInBounds_toArray, List.set_cons_zero, List.set_cons_succ]
                    refine wpAnyH_take (i := 21) (oi := ({ dst := some 72, op := Go.Op.unOp Go.UnOp.not 4 (Go.Operand.tmp 71), type := 4, pos := "sim.go:77", after := #[{ on := 20, ground := Go.Ground.data }, { on := 7, ground := Go.Ground.guard }], guard := some (7, true) } : Oper)) (v := ?_) rfl (by kernel_rfl) (by kernel_rfl) (by kernel_rfl) (fun _ _ _ h => h) (Or.inl ⟨by rfl, ?_⟩) (by assumption) ?_
                    case refine_2 => (intro w hSw; (try dsimp only at hSw); go_simp; try with_reducible rfl)
                    try simp only [Act.put, List.setIfInBounds_toArray, List.set_cons_zero, List.set_cons_succ]
                    refine wpAnyH_take (i := 22) (oi := ({ dst := some 73, op := Go.Op.move (Go.Operand.tmp 72), type := 4, pos := "sim.go:77", after := #[{ on := 21, ground := Go.Ground.data }, { on := 20, ground := Go.Ground.chain }, { on := 7, ground := Go.Ground.guard }], guard := some (7, true) } : Oper)) (v := ?_) rfl (by kernel_rfl) (by kernel_rfl) (by kernel_rfl) (fun _ _ _ h => h) (Or.inl ⟨by rfl, ?_⟩) (by assumption) ?_
                    case refine_2 => (intro w hSw; (try dsimp only at hSw); go_simp; try with_reducible rfl)
                    try simp only [Act.put, List.setIfInBounds_toArray, List.set_cons_zero, List.set_cons_succ]
                    refine wpAnyH_take (i := 23) (oi := ({ dst := some 74, op := Go.Op.load 25 (Go.Operand.tmp 2), type := 25, pos := "sim.go:77", after := #[{ on := 22, ground := Go.Ground.guard }], guard := some (22, false) } : Oper)) (v := undef) rfl (by kernel_rfl) (by kernel_rfl) (by kernel_rfl) (fun _ _ _ h => h) (Or.inr ⟨by rfl, rfl⟩) (by assumption) ?_
                    try simp only [Act.put, List.setIfInBounds_toArray, List.set_cons_zero, List.set_cons_succ]
                    refine wpAnyH_take (i := 24) (oi := ({ dst := some 75, op := Go.Op.move (Go.Operand.tmp 6), type := 46, pos := "sim.go:77", after := #[{ on := 22, ground := Go.Ground.guard }], guard := some (22, false) } : Oper)) (v := undef) rfl (by kernel_rfl) (by kernel_rfl) (by kernel_rfl) (fun _ _ _ h => h) (Or.inr ⟨by rfl, rfl⟩) (by assumption) ?_
                    try simp only [Act.put, List.setIfInBounds_toArray, List.set_cons_zero, List.set_cons_succ]
                    refine wpAnyH_take (i := 25) (oi := ({ dst := some 76, op := Go.Op.move (Go.Operand.tmp 8), type := 3, pos := "sim.go:77", after := #[{ on := 22, ground := Go.Ground.guard }], guard := some (22, false) } : Oper)) (v := undef) rfl (by kernel_rfl) (by kernel_rfl) (by kernel_rfl) (fun _ _ _ h => h) (Or.inr ⟨by rfl, rfl⟩) (by assumption) ?_
                    try simp only [Act.put, List.setIfInBounds_toArray, List.set_cons_zero, List.set_cons_succ]
                    refine wpAnyH_take (i := 26) (oi := ({ dst := some 77, op := Go.Op.move (Go.Operand.tmp 9), type := 3, pos := "sim.go:77", after := #[{ on := 22, ground := Go.Ground.guard }], guard := some (22, false) } : Oper)) (v := undef) rfl (by kernel_rfl) (by kernel_rfl) (by kernel_rfl) (fun _ _ _ h => h) (Or.inr ⟨by rfl, rfl⟩) (by assumption) ?_
                    try simp only [Act.put, List.setIfInBounds_toArray, List.set_cons_zero, List.set_cons_succ]
                    refine wpAnyH_take (i := 27) (oi := ({ dst := some 78, op := Go.Op.call { callee := Go.Callee.value (Go.Operand.func 23), args := #[Go.Operand.tmp 74, Go.Operand.tmp 75, Go.Operand.tmp 76, Go.Operand.tmp 77], argTypes := #[25, 46, 3, 3] }, type := 4, pos := "sim.go:77", after := #[{ on := 23, ground := Go.Ground.data }, { on := 24, ground := Go.Ground.data }, { on := 25, ground := Go.Ground.data }, { on := 26, ground := Go.Ground.data }, { on := 22, ground := Go.Ground.chain }, { on := 22, ground := Go.Ground.guard }], guard := some (22, false) } : Oper)) (v := undef) rfl (by kernel_rfl) (by kernel_rfl) (by kernel_rfl) (fun _ _ _ h => h) (Or.inr ⟨by rfl, rfl⟩) (by assumption) ?_
                    try simp only [Act.put, List.setIfInBounds_toArray, List.set_cons_zero, List.set_cons_succ]
                    refine wpAnyH_take (i := 28) (oi := ({ dst := some 79, op := Go.Op.unOp Go.UnOp.not 4 (Go.Operand.tmp 78), type := 4, pos := "sim.go:77", after := #[{ on := 27, ground := Go.Ground.data }, { on := 22, ground := Go.Ground.guard }], guard := some (22, false) } : Oper)) (v := undef) rfl (by kernel_rfl) (by kernel_rfl) (by kernel_rfl) (fun _ _ _ h => h) (Or.inr ⟨by rfl, rfl⟩) (by assumption) ?_
                    try simp only [Act.put, List.setIfInBounds_toArray, List.set_cons_zero, List.set_cons_succ]
                    refine wpAnyH_take (i := 29) (oi := ({ dst := some 80, op := Go.Op.pick (Go.Operand.tmp 73) (Go.Operand.const (Go.Value.bool true)) (Go.Operand.tmp 79), type := 4, pos := "sim.go:77", after := #[{ on := 22, ground := Go.Ground.data }, { on := 28, ground := Go.Ground.data }, { on := 7, ground := Go.Ground.guard }], guard := some (7, true) } : Oper)) (v := ?_) rfl (by kernel_rfl) (by kernel_rfl) (by kernel_rfl) (fun _ _ _ h => h) (Or.inl ⟨by rfl, ?_⟩) (by assumption) ?_
                    case refine_2 => (intro w hSw; (try dsimp only at hSw); go_simp; try with_reducible rfl)
                    try simp only [Act.put, List.setIfInBounds_toArray, List.set_cons_zero, List.set_cons_succ]
                    refine wpAnyH_take (i := 30) (oi := ({ dst := some 81, op := Go.Op.pick (Go.Operand.tmp 58) (Go.Operand.tmp 80) (Go.Operand.const (Go.Value.bool false)), type := 4, pos := "sim.go:77", after := #[{ on := 7, ground := Go.Ground.data }, { on := 29, ground := Go.Ground.data }], guard := none } : Oper)) (v := ?_) rfl (by kernel_rfl) (by kernel_rfl) (by kernel_rfl) (fun _ _ _ h => h) (Or.inl ⟨by rfl, ?_⟩) (by assumption) ?_
                    case refine_2 => (intro w hSw; (try dsimp only at hSw); go_simp; try with_reducible rfl)
                    try simp only [Act.put, List.setIfInBounds_toArray, List.set_cons_zero, List.set_cons_succ]
                    refine wpAnyH_done (by kernel_rfl) ?_ _
                    all_goals (
                      have lowN := Lib.hid (sk.out.below hbY2).low
                      clear CA SB
                      go_wp2
                      go_ret
                      exact gives_no hno.out lowN.out)
                  | true =>
                    cases fv with
                    | true =>
                      have hrow2 := Lib.hid (hyes.out rfl rfl)
                      clear hnot hyes
                      go_wp2
                      go_region_held3 (fun w' => w'.cell? ⟨ba, oa + i, none⟩ = some (.slice (some ⟨b2, o2, none⟩) l.length cl) ∧ w'.cell? ⟨b2, o2 + k, none⟩ = some (.bool true) ∧ w'.cell? ⟨W.heap.size, 0, none⟩ = some (.int .i64 A.sets) ∧ w'.cell? ⟨W.heap.size, 1, none⟩ = some (.slice ai A.init.length ci) ∧ w'.cell? ⟨W.heap.size, 2, none⟩ = some (.slice (some ⟨b1, o1, none⟩) A.nodes.length cn) ∧ w'.cell? ⟨b1, o1 + i * 4, none⟩ = some (.int .u64 xn) ∧ w'.cell? ⟨b1, o1 + i * 4 + 1, none⟩ = some (.int .u64 xb) ∧ w'.cell? ⟨b1, o1 + i * 4 + 2, none⟩ = some (.int .u64 xi) ∧ w'.cell? ⟨b1, o1 + i * 4 + 3, none⟩ = some (.slice ax xt.length cx1) ∧ w'.cell? ⟨b1, o1 + k * 4, none⟩ = some (.int .u64 yn) ∧ w'.cell? ⟨b1, o1 + k * 4 + 1, none⟩ = some (.int .u64 yb) ∧ w'.cell? ⟨b1, o1 + k * 4 + 2, none⟩ = some (.int .u64 yi) ∧ w'.cell? ⟨b1, o1 + k * 4 + 3, none⟩ = some (.slice ay yt.length cy)) (first | exact SB.out _ hbZ2 | exact SB.out _ hbY2 | exact ⟨cx, cv, a0, a1, a2, p0, p1, p2, p3, q0, q1, q2, q3⟩) (first
                        | (go_at_call 23; (with_reducible refine F2.out.mono ?_); rintro r wZ ⟨rfl, hbZ⟩; have hbZ2 := btrans hbY2 hbZ)
                        | (go_at_call 22; (with_reducible refine (CA.out _ _ _).mono ?_); rintro r wY ⟨rfl, hbY⟩; have hbY2 : Below wr.heap.size wr wY := ⟨hbY.os, hbY.tape, hbY.output, hbY.size, hbY.block⟩; have sY := sk.out.below hbY2; have F2 := Lib.hid (FW.out wY sY.low sY.mat)))
                      all_goals (
                        have stN := Lib.hid (sk.out.below hbZ2)
                        clear CA SB FW F2
                        go_wp2
                        go_roundw
                        case rel => exact ⟨k + 1, by omega, by go_num, rfl, stN.out, hrow2.out⟩
                        case measure => simp [intOf]; omega)
                    | false =>
                      have hno := Lib.hid (hnot.out (.inr rfl))
                      clear hnot hyes
                      go_wp2
                      go_region_held3 (fun w' => w'.cell? ⟨ba, oa + i, none⟩ = some (.slice (some ⟨b2, o2, none⟩) l.length cl) ∧ w'.cell? ⟨b2, o2 + k, none⟩ = some (.bool true) ∧ w'.cell? ⟨W.heap.size, 0, none⟩ = some (.int .i64 A.sets) ∧ w'.cell? ⟨W.heap.size, 1, none⟩ = some (.slice ai A.init.length ci) ∧ w'.cell? ⟨W.heap.size, 2, none⟩ = some (.slice (some ⟨b1, o1, none⟩) A.nodes.length cn) ∧ w'.cell? ⟨b1, o1 + i * 4, none⟩ = some (.int .u64 xn) ∧ w'.cell? ⟨b1, o1 + i * 4 + 1, none⟩ = some (.int .u64 xb) ∧ w'.cell? ⟨b1, o1 + i * 4 + 2, none⟩ = some (.int .u64 xi) ∧ w'.cell? ⟨b1, o1 + i * 4 + 3, none⟩ = some (.slice ax xt.length cx1) ∧ w'.cell? ⟨b1, o1 + k * 4, none⟩ = some (.int .u64 yn) ∧ w'.cell? ⟨b1, o1 + k * 4 + 1, none⟩ = some (.int .u64 yb) ∧ w'.cell? ⟨b1, o1 + k * 4 + 2, none⟩ = some (.int .u64 yi) ∧ w'.cell? ⟨b1, o1 + k * 4 + 3, none⟩ = some (.slice ay yt.length cy)) (first | exact SB.out _ hbZ2 | exact SB.out _ hbY2 | exact ⟨cx, cv, a0, a1, a2, p0, p1, p2, p3, q0, q1, q2, q3⟩) (first
                        | (go_at_call 23; (with_reducible refine F2.out.mono ?_); rintro r wZ ⟨rfl, hbZ⟩; have hbZ2 := btrans hbY2 hbZ)
                        | (go_at_call 22; (with_reducible refine (CA.out _ _ _).mono ?_); rintro r wY ⟨rfl, hbY⟩; have hbY2 : Below wr.heap.size wr wY := ⟨hbY.os, hbY.tape, hbY.output, hbY.size, hbY.block⟩; have sY := sk.out.below hbY2; have F2 := Lib.hid (FW.out wY sY.low sY.mat)))
                      all_goals (
                        have lowN := Lib.hid (sk.out.below hbZ2).low
                        clear CA SB FW F2
                        go_wp2
                        go_ret
                        exact gives_no hno.out lowN.out)
              · obtain rfl : k = A.nodes.length := by omega
                have hd2 : Hid (∀ i' k', i' < i + 1 → k' < A.nodes.length → fnOf L i' k' = true → aloB (sN A) (nd A i') (nd A k') = true ∧ folB (fnOf L) (nd A i') (nd A k') = true) := fun i' k' h1 h2 h3 => by
                  rcases Nat.lt_succ_iff_lt_or_eq.1 h1 with h4 | rfl
                  · exact hdone.out i' k' h4 h2 h3
                  · exact hrow.out k' h2 h3
                replace sk := Lib.hid sk
                go_wp2
                go_roundw
                case rel => exact ⟨i + 1, by omega, by go_num, rfl, sk.out, hd2⟩
                case measure => simp [intOf]; omega
          · obtain rfl : i = A.nodes.length := by omega
            have hyes : Hid (IsP A L) := ⟨hc.out, hln.out, fun l hl => by
              obtain ⟨j, hj, rfl⟩ := List.mem_iff_getElem.1 hl
              exact hrl.out j hj, fun i k hi hk hr => hdone.out i k hi hk hr⟩
            have hlow := Lib.hid st.low
            clear st hin
            go_wp2
            go_ret
            exact ⟨true, rfl, ⟨fun _ => hyes.out, fun _ => rfl⟩, hlow.out⟩
end Go.Proofs.Ytnllgigolfakpaa
