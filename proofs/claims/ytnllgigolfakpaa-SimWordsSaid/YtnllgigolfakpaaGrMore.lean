/- Of which set a node is, which lie in a set, from which a way leads to a goal. Conditions: the bounds of a graph and an automaton. -/
import Derived.Test.YtnllgigolfakpaaGrTurn
import Derived.Test.YtnllgigolfakpaaGrWithin
import Derived.BigRegion
namespace Go.Proofs.Ytnllgigolfakpaa
open Go.RowKit

theorem mod_bit {m : Nat} : ((m : Int) % 2 == 1) = decide (m % 2 = 1) := by
  by_cases h : m % 2 = 1
  · rw [decide_eq_true h]
    have : (m : Int) % 2 = 1 := by omega
    rw [this]
    rfl
  · rw [decide_eq_false h]
    have : (m : Int) % 2 = 0 := by omega
    rw [this]
    rfl
set_option maxHeartbeats 1000000 in
theorem in_any (w : World) (ai an : Option Addr) (ni ci cn : Nat) (A : AU) (h : NodesAt w an A.nodes) (k i : Nat) (hk : k < A.nodes.length) (hi : i < 64) :
    Calls Try.prog 42 #[.agg #[.int .i64 A.sets, .slice ai ni ci, .slice an A.nodes.length cn], .int .i64 (k : Int), .int .i64 (i : Int)] w fun e w' => e = .returned (.bool ((ndT A k).inn.testBit i)) ∧ Below w.heap.size w w' := by
  obtain ⟨b, off, hab, h1, h2, c2, h3⟩ := h.at k hk
  clear h1 h2 h3
  rw [← ndT_get hk] at c2
  generalize (ndT A k).inn = inn at c2
  obtain ⟨m, hm⟩ : ∃ m, m = inn / 2 ^ i := ⟨_, rfl⟩
  have e1 : (inn : Int) / 2 ^ i = (m : Int) := by rw [hm]; push_cast; rfl
  have e2 : ((m : Int) % 2 == 1) = inn.testBit i := by rw [mod_bit, Nat.testBit_eq_decide_div_mod_eq, hm]
  have e3 : 0 ≤ (m : Int) := by omega
  have e64 : IntKind.u64.wrap (i : Int) = (i : Int) := IntWalk.u64_in _ (by omega)
  have hkn : (k : Int) < (A.nodes.length : Int) := by omega
  have hA := balloc (Below.refl w.heap.size w) (.cells #[.int .i64 A.sets, .slice ai ni ci, .slice an A.nodes.length cn] AUT)
  have c2' := bcell hA c2
  have hi2 : (i : Int) < 64 := by omega
  replace hm := Lib.hid hm
  replace hA := Lib.hid hA
  generalize inn.testBit i = r at e2
  subst hab
  clear h hk hi
  go_enter Try.func42, Try.ntmps42
  go_wp2
  go_ret
  exact ⟨rfl, hA.out⟩

/-- which lie in a set -/
def lieB (A : AU) (zs : List Bool) (fl : List Nat) (i : Int) (p : Nat) : Bool := inZ zs p && (decide (i < 0) || (ndT A (fl.getD p 0)).inn.testBit i.toNat)
def liesT (A : AU) (zs : List Bool) (fl : List Nat) (i : Int) (n k : Nat) : List Bool := (List.range n).map fun p => if p < k then lieB A zs fl i p else false
theorem liesT_start (A : AU) (zs : List Bool) (fl : List Nat) (i : Int) (n : Nat) : liesT A zs fl i n 0 = List.replicate n false := by
  apply List.ext_getElem
  · simp [liesT]
  · intro k h1 h2
    simp [liesT]
theorem liesT_set {A : AU} {zs : List Bool} {fl : List Nat} {i : Int} {n k : Nat} (hk : k < n) : (liesT A zs fl i n k).set k (lieB A zs fl i k) = liesT A zs fl i n (k + 1) := by
  apply List.ext_getElem
  · simp [liesT]
  · intro j h1 h2
    rw [List.getElem_set]
    simp only [liesT, List.getElem_map, List.getElem_range]
    by_cases e : k = j
    · subst e
      rw [if_pos rfl, if_pos (by omega)]
    · rw [if_neg e]
      by_cases hj : j < k
      · have h3 : j < k + 1 := by omega
        rw [if_pos hj, if_pos h3]
      · have h3 : ¬ j < k + 1 := by omega
        rw [if_neg hj, if_neg h3]
theorem liesT_len (A : AU) (zs : List Bool) (fl : List Nat) (i : Int) (n k : Nat) : (liesT A zs fl i n k).length = n := by simp [liesT]
theorem liesT_done {A : AU} {zs : List Bool} {fl : List Nat} {i : Int} {n v : Nat} (hv : v < n) : (liesT A zs fl i n n).getD v false = lieB A zs fl i v := by simp [liesT, List.getD, hv]
set_option maxRecDepth 10000 in
set_option maxHeartbeats 4000000 in
theorem lies_any (W : World) (ai an : Option Addr) (ni ci cn : Nat) (A : AU) (hN : NodesAt W an A.nodes) (az : Option Addr) (cz : Nat) (zs : List Bool) (hZ : BsAt W az zs) (af : Option Addr) (cf : Nat) (fl : List Nat) (hF : NumsAt .i64 W af (ints fl)) (hzl : zs.length = fl.length) (hfl : ∀ q ∈ fl, q < A.nodes.length) (hn : fl.length ≤ 1000000) (i : Int) (hi : -1 ≤ i ∧ i < 64) :
    Calls Try.prog 39 #[.agg #[.int .i64 A.sets, .slice ai ni ci, .slice an A.nodes.length cn], .slice az fl.length cz, .slice af fl.length cf, .int .i64 i] W fun e w' => ∃ g, e = .returned (.slice (some ⟨g, 0, none⟩) fl.length fl.length) ∧ RowAt w' g TyB ((liesT A zs fl i fl.length fl.length).map .bool) ∧ Below W.heap.size W w' := by
  obtain ⟨n, hnE⟩ : ∃ n, n = fl.length := ⟨_, rfl⟩
  rw [← hnE] at hzl hn ⊢
  replace hnE := Lib.hid hnE
  replace hzl := Lib.hid hzl
  have IN := Lib.hid (fun w' (hb : Below W.heap.size W w') k j hk hj => in_any w' ai an ni ci cn A (hN.below hb) k j hk hj)
  obtain ⟨w1, hw1⟩ : ∃ w1, w1 = W.alloc (.cells #[.int .i64 A.sets, .slice ai ni ci, .slice an A.nodes.length cn] AUT) := ⟨_, rfl⟩
  have hb1 : Below W.heap.size W w1 := by rw [hw1]; exact balloc (Below.refl _ _) _
  have r1 : RowAt w1 W.heap.size AUT [.int .i64 A.sets, .slice ai ni ci, .slice an A.nodes.length cn] := by rw [hw1]; exact RowAt.new (w := W) #[.int .i64 A.sets, .slice ai ni ci, .slice an A.nodes.length cn] rfl
  have hby : Hid (1 * n ≤ 281474976710656) := by show _ ≤ _; omega
  have hn2 : (n : Int) ≤ 1000000 := by omega
  have hn0 : 0 ≤ (n : Int) := by omega
  have hi1 : -1 ≤ i := hi.1
  have hi2 : i < 64 := hi.2
  obtain ⟨nn, hnn⟩ : ∃ nn, nn = A.nodes.length := ⟨_, rfl⟩
  rw [← hnn] at r1 IN hfl hw1 ⊢
  replace hb1 := Lib.hid hb1
  replace r1 := Lib.hid r1
  replace hZ := Lib.hid hZ
  replace hF := Lib.hid hF
  replace hfl := Lib.hid hfl
  clear hi hn hN hnn
  go_enter Try.func39, Try.ntmps39
  go_wp2_with (at_make; refine wp_makeRow rfl _ _ _ TyB (.bool false) 1 rfl Try.underlying32 infoBl rfl n rfl rfl hby.out (by decide) ?_)
  intro w2 hM hb2 hlt2
  have hz1 : w1.heap.size = W.heap.size + 1 := by rw [hw1]; simp
  have hb2 : Below w1.heap.size w1 w2 := by rw [hw1]; simpa using hb2
  obtain ⟨g, hg⟩ : ∃ g, g = W.heap.size + 1 := ⟨_, rfl⟩
  rw [← hg] at hM hlt2 hz1
  have rw0 : Hid (RowAt w2 g TyB ((liesT A zs fl i n 0).map .bool)) := by show RowAt _ _ _ _; rw [liesT_start, List.map_replicate]; exact hM
  have bw2 := Lib.hid (btrans hb1.out hb2)
  have t1 := Lib.hid (r1.out.below hb2)
  have hXg : W.heap.size < g := by omega
  have e2 : W.heap.size + 1 = g := hg.symm
  try rw [e2]
  clear hM hb2 hlt2 hb1 r1 hg e2 hz1 hw1 hby
  go_wp2
  go_loopw [10] (fun kv wr => ∃ k : Nat, k ≤ n ∧ kv = .int .i64 k ∧ Hid (RowAt wr g TyB ((liesT A zs fl i n k).map .bool)) ∧ Hid (Below W.heap.size W wr) ∧ Hid (RowAt wr W.heap.size AUT [.int .i64 A.sets, .slice ai ni ci, .slice an nn cn])) (fun kv _ => n - (intOf kv).toNat)
  case atStart => exact ⟨0, Nat.zero_le _, rfl, rw0, bw2, t1⟩
  case round =>
    obtain ⟨k, hk, rfl, row, lo, q1⟩ := hrel
    clear rw0 bw2 t1
    by_cases hkn : k < n
    · have hkn2 : (k : Int) < (n : Int) := by omega
      obtain ⟨bz, oz, haz, hbzl, cz0⟩ := hZ.out.at k (by rw [hzl.out]; exact hkn)
      have hkf : k < fl.length := by rw [← hnE.out]; exact hkn
      obtain ⟨bf, of_, q', haf, cf0, hv⟩ := NumsAt.at hF.out k (by rw [ints_len]; exact hkf)
      rw [ints_at hkf] at hv
      obtain ⟨q, hq⟩ : ∃ q, q = fl[k] := ⟨_, rfl⟩
      have hqn : q < nn := hfl.out q (by rw [hq]; exact List.getElem_mem hkf)
      rw [← hq] at hv
      obtain rfl := hv.out
      have hbfl : bf < W.heap.size := World.block_lt_of_cell? W _ cf0
      have hfd : fl.getD k 0 = q := by rw [List.getD_eq_getElem?_getD, List.getElem?_eq_getElem hkf, hq]; rfl
      obtain ⟨bv, hbv⟩ : ∃ bv, bv = lieB A zs fl i k := ⟨_, rfl⟩
      have hset : Hid (RowAt (wr.setCell ⟨g, k, none⟩ (.bool bv)) g TyB ((liesT A zs fl i n (k + 1)).map .bool)) := by
        have h1 := row.out.set k (.bool bv)
        rw [← List.map_set, hbv, liesT_set hkn] at h1
        rw [hbv]
        exact h1
      have hnew : Hid (∀ w9, Keeps wr w9 (fun j => j = g) → Below W.heap.size W w9 ∧ RowAt w9 W.heap.size AUT [.int .i64 A.sets, .slice ai ni ci, .slice an nn cn]) := fun w9 hk9 => ⟨hk9.below lo.out (fun j hj => by omega), q1.out.keeps hk9 (by omega)⟩
      have hk9 : Keeps wr (wr.setCell ⟨g, k, none⟩ (.bool bv)) (fun j => j = g) := Keeps.set wr g k _ rfl
      have czr := bcell lo.out cz0
      have cfr := bcell lo.out cf0
      have hcur : wr.cell? ⟨g, k, none⟩ = some (.bool false) := by
        rw [row.out.cell]
        simp [liesT, hkn]
      have hfz := row.out.free k
      obtain ⟨zk, hzk⟩ : ∃ zk, zk = zs.getD k false := ⟨_, rfl⟩
      rw [← hzk] at czr
      have hbv2 : Hid (bv = (zk && (decide (i < 0) || (ndT A q).inn.testBit i.toNat))) := by show _ = _; rw [hbv, hzk]; unfold lieB inZ; rw [hfd]
      have IN2 := IN.out wr lo.out q i.toNat hqn (by omega)
      replace hzk := Lib.hid hzk
      replace hq := Lib.hid hq
      replace hfd := Lib.hid hfd
      subst haz
      subst haf
      clear hbv hv cz0 cf0
      by_cases hno : zk = false ∨ i < 0
      · have hbz : Hid (bv = zk) := by
          show _ = _
          rw [hbv2.out]
          rcases hno with h | h
          · rw [h]; rfl
          · rw [decide_eq_true h]; simp
        obtain rfl := hbz.out
        have hk9' := Lib.hid hk9
        clear hk9 hbv2 IN2 hbz
        have fin : Hid (RowAt ((wr.setCell ⟨g, k, none⟩ (.bool bv)).drew) g TyB ((liesT A zs fl i n (k + 1)).map .bool)) := hset.out
        cases bv with
        | false =>
          clear hno
          go_wp2
          go_region
          go_wp2
          go_roundw
          case rel => exact ⟨k + 1, by omega, by go_num, fin.out, ⟨(hnew.out _ hk9'.out).1.drew, (hnew.out _ hk9'.out).2⟩⟩
          case measure => simp [intOf]; omega
        | true =>
          have hneg : i < 0 := by rcases hno with h | h; · cases h
                                  · exact h
          clear hno
          go_wp2
          go_region
          go_wp2
          go_roundw
          case rel => exact ⟨k + 1, by omega, by go_num, fin.out, ⟨(hnew.out _ hk9'.out).1.drew, (hnew.out _ hk9'.out).2⟩⟩
          case measure => simp [intOf]; omega
      · have hz1 : zk = true := by cases zk with
          | true => rfl
          | false => exact absurd (.inl rfl) hno
        subst hz1
        have hge : 0 ≤ i := by
          refine Int.not_lt.1 (fun h => hno (.inr h))
        obtain ⟨j, rfl⟩ := Int.eq_ofNat_of_zero_le hge
        have hneg : decide ((j : Int) < 0) = false := by simp
        rw [Int.toNat_natCast] at IN2
        have hbz : Hid (bv = (ndT A q).inn.testBit j) := by
          show _ = _
          rw [hbv2.out, hneg, Int.toNat_natCast]
          rfl
        rw [← hbz.out] at IN2
        have a0 : wr.cell? ⟨W.heap.size, 0, none⟩ = some (.int .i64 A.sets) := q1.out.cell 0
        have a1 : wr.cell? ⟨W.heap.size, 1, none⟩ = some (.slice ai ni ci) := q1.out.cell 1
        have a2 : wr.cell? ⟨W.heap.size, 2, none⟩ = some (.slice an nn cn) := q1.out.cell 2
        have SB : Hid (∀ w', Below wr.heap.size wr w' → w'.cell? ⟨W.heap.size, 0, none⟩ = some (.int .i64 A.sets) ∧ w'.cell? ⟨W.heap.size, 1, none⟩ = some (.slice ai ni ci) ∧ w'.cell? ⟨W.heap.size, 2, none⟩ = some (.slice an nn cn) ∧ w'.cell? ⟨bz, oz + k, none⟩ = some (.bool true) ∧ w'.cell? ⟨bf, of_ + k, none⟩ = some (.int .i64 (q : Int))) := fun w' hb => ⟨bcell hb a0, bcell hb a1, bcell hb a2, bcell hb czr, bcell hb cfr⟩
        have SC : Hid (∀ w', Below wr.heap.size wr w' → (w'.setCell ⟨g, k, none⟩ (.bool bv)).cell? ⟨W.heap.size, 0, none⟩ = some (.int .i64 A.sets) ∧ (w'.setCell ⟨g, k, none⟩ (.bool bv)).cell? ⟨W.heap.size, 1, none⟩ = some (.slice ai ni ci) ∧ (w'.setCell ⟨g, k, none⟩ (.bool bv)).cell? ⟨W.heap.size, 2, none⟩ = some (.slice an nn cn) ∧ (w'.setCell ⟨g, k, none⟩ (.bool bv)).cell? ⟨bz, oz + k, none⟩ = some (.bool true) ∧ (w'.setCell ⟨g, k, none⟩ (.bool bv)).cell? ⟨bf, of_ + k, none⟩ = some (.int .i64 (q : Int))) := fun w' hb => by
          obtain ⟨d0, d1, d2, d3, d4⟩ := SB.out w' hb
          have no : ∀ b o, b ≠ g → (w'.setCell ⟨g, k, none⟩ (.bool bv)).cell? ⟨b, o, none⟩ = w'.cell? ⟨b, o, none⟩ := fun b o hne => World.cell?_setCell_other _ _ _ _ (fun e => by injection e with e1 e2; exact hne e1.symm)
          exact ⟨(no _ _ (by omega)).trans d0, (no _ _ (by omega)).trans d1, (no _ _ (by omega)).trans d2, (no _ _ (by omega)).trans d3, (no _ _ (by omega)).trans d4⟩
        have IN3 := Lib.hid (fun w' (hb : Below wr.heap.size wr w') => IN.out w' (btrans lo.out hb) q j hqn (by omega))
        rw [← hbz.out] at IN3
        have hfin : Hid (∀ w3, Below wr.heap.size wr w3 → RowAt (w3.setCell ⟨g, k, none⟩ (.bool bv)) g TyB ((liesT A zs fl (j : Int) n (k + 1)).map .bool) ∧ Below W.heap.size W (w3.setCell ⟨g, k, none⟩ (.bool bv)) ∧ RowAt (w3.setCell ⟨g, k, none⟩ (.bool bv)) W.heap.size AUT [.int .i64 A.sets, .slice ai ni ci, .slice an nn cn]) := fun w3 hb => by
          have hk3 : Keeps w3 (w3.setCell ⟨g, k, none⟩ (.bool bv)) (fun j => j = g) := Keeps.set w3 g k _ rfl
          refine ⟨?_, hk3.below (btrans lo.out hb) (fun j hj => by omega), (q1.out.below hb).keeps hk3 (by omega)⟩
          have h1 := (row.out.below hb).set k (.bool bv)
          rw [← List.map_set] at h1
          have h2 := hset.out
          have h3 := row.out.set k (.bool bv)
          rw [← List.map_set] at h3
          have h4 := h2.symm.trans h3
          simp only [Option.some.injEq, Obj.cells.injEq, and_true] at h4
          unfold RowAt at h1 ⊢
          rw [h1, h4]
        replace hbz := Lib.hid hbz
        clear hbv2 IN2 hno hk9 hnew hset hge hbz
        go_wp2
        go_region_held3 (fun w' => w'.cell? ⟨W.heap.size, 0, none⟩ = some (.int .i64 A.sets) ∧ w'.cell? ⟨W.heap.size, 1, none⟩ = some (.slice ai ni ci) ∧ w'.cell? ⟨W.heap.size, 2, none⟩ = some (.slice an nn cn) ∧ w'.cell? ⟨bz, oz + k, none⟩ = some (.bool true) ∧ w'.cell? ⟨bf, of_ + k, none⟩ = some (.int .i64 (q : Int))) (first | exact SC.out _ B3 | exact SB.out _ B3 | exact SB.out _ (Below.refl _ _) | exact SB.out _ (Below.refl _ _).drew) (first
          | (go_at_call 42; (with_reducible refine (IN3.out _ (Below.refl _ _).drew).mono ?_); rintro e w3 ⟨rfl, hb3⟩; have B3 : Below wr.heap.size wr w3 := ⟨hb3.os, hb3.tape, hb3.output, hb3.size, hb3.block⟩; have hcur3 := bcell B3 hcur; have hfz3 := (row.out.below B3).free k))
        obtain ⟨k1, k2, k3⟩ := hfin.out _ B3
        replace k1 := Lib.hid k1
        replace k2 := Lib.hid k2
        replace k3 := Lib.hid k3
        go_wp2
        go_roundw
        case rel => exact ⟨k + 1, by omega, by go_num, k1, k2, k3⟩
        case measure => simp [intOf]; omega
    · obtain rfl : k = n := by omega
      clear hkn
      go_wp2
      go_ret
      exact ⟨g, rfl, row.out, lo.out⟩
end Go.Proofs.Ytnllgigolfakpaa
