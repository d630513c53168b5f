/- The walk of the document's One (under way). Conditions: the bounds that an argument brings along, and on its lists. -/
import Derived.Test.YtefplklkhcpchaaDegRIn
import Derived.Test.YtefplklkhcpchaaDegOneW
import Derived.Deep.RegionWith
import Derived.Deep.RegionHeld3
import Derived.Deep.DeepCutAuto
namespace Go.Proofs.Ytefplklkhcpchaa
open Go.RowKit

set_option maxRecDepth 10000 in
set_option maxHeartbeats 8000000 in
theorem rone_any (w : World) (ai an : Option Addr) (ci cn : Nat) (A : AU) (h : AuAt w ai A.init.length an A.nodes.length A) (ok : AuOk A) (hsz : A.init.length ≤ 2000 ∧ ∀ x ∈ A.nodes, x.to.length ≤ 2000) :
    Calls Try.prog 11 #[.agg #[.int .i64 A.sets, .slice ai A.init.length ci, .slice an A.nodes.length cn]] w (GivesAuto w (oneP A)) := by
  have hb0 : Below w.heap.size w ((w.alloc (.cells #[.int .i64 A.sets, .slice ai A.init.length ci, .slice an A.nodes.length cn] TA)).alloc (.cells #[.int .i64 0, .slice none 0 0, .slice none 0 0] TA)) := balloc (balloc (Below.refl _ _) _) _
  have CK := Lib.hid (rcheck_any _ ai an ci cn A (h.below hb0) ok)
  have r1 : RowAt ((w.alloc (.cells #[.int .i64 A.sets, .slice ai A.init.length ci, .slice an A.nodes.length cn] TA)).alloc (.cells #[.int .i64 0, .slice none 0 0, .slice none 0 0] TA)) w.heap.size TA [.int .i64 A.sets, .slice ai A.init.length ci, .slice an A.nodes.length cn] := (RowAt.new (w := w) #[.int .i64 A.sets, .slice ai A.init.length ci, .slice an A.nodes.length cn] rfl).alloc _
  have r2 : RowAt ((w.alloc (.cells #[.int .i64 A.sets, .slice ai A.init.length ci, .slice an A.nodes.length cn] TA)).alloc (.cells #[.int .i64 0, .slice none 0 0, .slice none 0 0] TA)) (w.heap.size + 1) TA [.int .i64 0, .slice none 0 0, .slice none 0 0] := RowAt.new #[.int .i64 0, .slice none 0 0, .slice none 0 0] (by simp)
  have R1 := Lib.hid r1
  have R2 := Lib.hid r2
  replace hb0 := Lib.hid hb0
  clear r1 r2
  by_cases hc : chk A ≠ 0
  · have hq : Hid (oneP A = (chk A, ⟨0, [], []⟩)) := by unfold Hid oneP; rw [if_pos hc]
    rw [hq.out]
    have hcb : (chk A != 0) = true := by simpa using hc
    generalize chk A = why at hcb CK
    clear hq hc h ok hsz
    go_enter Try.func11, Try.ntmps11
    go_wp2_with fail
    refine CK.out.mono ?_
    rintro e w1 ⟨rfl, hb1⟩
    have r2 := R2.out.below hb1
    have e0 : w1.cell? ⟨w.heap.size + 1, 0, none⟩ = some (.int .i64 0) := r2.cell 0
    have e1 : w1.cell? ⟨w.heap.size + 1, 1, none⟩ = some (.slice none 0 0) := r2.cell 1
    have e2 : w1.cell? ⟨w.heap.size + 1, 2, none⟩ = some (.slice none 0 0) := r2.cell 2
    have f0 := r2.free 0
    have f1 := r2.free 1
    have f2 := r2.free 2
    have hbw := btrans hb0.out hb1
    go_wp2
    refine bodyPost_ret (v := .tuple #[.agg #[.int .i64 0, .slice none 0 0, .slice none 0 0], .int .i64 why]) (by simp [results, Try.results11, go_sem, e0, e1, e2]) rfl ⟨none, 0, none, 0, rfl, NumsAt.nil _ _ _, NodesAt.nil _ _, ?_⟩
    exact bsetN (bsetN (bsetN hbw (by omega)) (by omega)) (by omega)
  have hc : chk A = 0 := by simpa using hc
  have hcb : (chk A != 0) = false := by simp [hc]
  obtain ⟨g1, g2, g3, g4, g5⟩ := chk_good hc
  obtain ⟨s, init, nodes⟩ := A
  simp only at g1 g2 g3 g4 CK R1 R2 hb0 hsz
  obtain ⟨sn, rfl⟩ := Int.eq_ofNat_of_zero_le g2
  have hsn : sn ≤ 16 := by omega
  rw [hc] at CK
  have hi := h.init
  have hn := h.nodes
  simp only at hi hn
  replace hc := Lib.hid hc
  replace ok := Lib.hid ok
  replace hi := Lib.hid hi
  replace hn := Lib.hid hn
  replace g4 := Lib.hid g4
  replace g5 := Lib.hid g5
  replace hsz := Lib.hid hsz
  obtain ⟨res, hres⟩ : ∃ res, res = oneP ⟨(sn : Int), init, nodes⟩ := ⟨_, rfl⟩
  rw [← hres]
  replace hres := Lib.hid hres
  clear h hcb
  go_enter Try.func11, Try.ntmps11
  go_wp2_with fail
  refine CK.out.mono ?_
  rintro e w1 ⟨rfl, hb1⟩
  have hbw := btrans hb0.out hb1
  have r1 := R1.out.below hb1
  have r2 := R2.out.below hb1
  have hz1 : w.heap.size + 1 < w1.heap.size := r2.lt
  have hz0 : w.heap.size < w1.heap.size := by omega
  clear CK R1 R2 hb1
  have hSt : RSt (w1.alloc (.cells #[.int .i64 1, .slice none 0 0, .slice none 0 0] TA)) w1.heap.size w1.heap.size (w.heap.size + 1) none 0 [] none 0 [] none 0 [] [] :=
    ⟨OwnR.nil _ _ _ _, RowAt.new #[.int .i64 1, .slice none 0 0, .slice none 0 0] rfl, by omega, by omega, fun j hj => by simp [OBlk, Value.ownBlock] at hj, OwnN.nil _ _ _ _, fun j hj => by simp [OBlk, Value.ownBlock] at hj, OwnR.nil _ _ _ _, fun j hj => by simp [OBlk, Value.ownBlock] at hj, rfl, by simp; omega⟩
  have s1 := Lib.hid (r1.alloc (.cells #[.int .i64 1, .slice none 0 0, .slice none 0 0] TA))
  have s2 := Lib.hid (r2.alloc (.cells #[.int .i64 1, .slice none 0 0, .slice none 0 0] TA))
  have hb7 := Lib.hid (balloc hbw (.cells #[.int .i64 1, .slice none 0 0, .slice none 0 0] TA))
  replace hSt := Lib.hid hSt
  clear r1 r2 hbw
  go_wp2
  go_loopw [5, 7] (fun lv iv wr => ∃ (k : Nat) (l : List PR) (pa : Option Addr) (pc : Nat) (a0 : Option Addr) (c0 : Nat) (ini : List Int), k ≤ init.length ∧ iv = .int .i64 k ∧ lv = .slice pa l.length pc ∧ RSt wr w1.heap.size w1.heap.size (w.heap.size + 1) pa pc l a0 c0 ini none 0 [] [] ∧
      RowAt wr w.heap.size TA [.int .i64 (sn : Int), .slice ai init.length ci, .slice an nodes.length cn] ∧ RowAt wr (w.heap.size + 1) TA [.int .i64 0, .slice none 0 0, .slice none 0 0] ∧ Below w.heap.size w wr ∧ Hid (rowP 0 (init.take k) ([], []) = (l, ini)) ∧ l.length ≤ k ∧ ini.length ≤ k) (fun _ iv _ => init.length - (intOf iv).toNat)
  case atStart => exact ⟨0, [], none, 0, none, 0, [], Nat.zero_le _, rfl, rfl, hSt.out, s1.out, s2.out, hb7.out, rfl, Nat.le_refl _, Nat.le_refl _⟩
  case round =>
    obtain ⟨k, l, pa, pc, a0, c0, ini, hk, rfl, rfl, st, t1, t2, hb, hrow, hlk, hik⟩ := hrel
    clear hSt s1 s2 hb7
    have a1 : wr.cell? ⟨w.heap.size, 1, none⟩ = some (.slice ai init.length ci) := t1.cell 1
    have hzr := t1.lt
    by_cases hlt : k < init.length
    · obtain ⟨bi, oi, v, hab, cv, hv⟩ := (hi.out.below hb).at k hlt
      have hv2 : v = init[k] := by rw [hv.out, List.getD_eq_getElem?_getD, List.getElem?_eq_getElem hlt]; rfl
      have hst : Hid (rowP 0 (init.take (k + 1)) ([], []) = ((numP l (v, 0)).1, putP ini (numP l (v, 0)).2)) := by
        show _ = _
        rw [rowP_snoc 0 init k hlt, hrow.out, ← hv2]
        rfl
      have hki : (k : Int) < (init.length : Int) := by omega
      have hl2 := hsz.out.1
      have hbl := World.block_lt_of_cell? wr _ cv
      simp only at hbl
      have hA : Below wr.heap.size wr (wr.alloc (.cells #[.int .i64 v, .int .i64 0] TQ)) := balloc (Below.refl _ _) _
      have r8 := RowAt.new (w := wr) (T := TQ) #[.int .i64 v, .int .i64 0] rfl
      have F0 := find_any _ w1.heap.size pa pc l (OwnR.alloc st.pr (.cells #[.int .i64 v, .int .i64 0] TQ)) v 0 (by omega)
      subst hab
      clear hv2 hv hrow
      by_cases hm : (v, (0 : Int)) ∈ l
      · have hfn := Lib.hid (find_num hm).1
        have hl1 := Lib.hid (find_num hm).2
        rw [hfn.out] at F0
        generalize numP l (v, 0) = q at hfn hl1 hst F0
        obtain ⟨l3, n⟩ := q
        simp only at hfn hl1 hst F0
        obtain rfl := hl1.out
        replace F0 := Lib.hid F0
        clear hm hl1
        go_wp2_with fail
        refine F0.out.mono ?_
        rintro e w3 ⟨rfl, hb3'⟩
        have hb3w := btrans hA hb3'
        have st3 := st.below hb3w
        replace r8 := r8.below hb3'
        replace t1 := t1.below hb3w
        replace t2 := t2.below hb3w
        have hb3 := btrans hb hb3w
        clear F0 st hb hA a1 cv hb3' hb3w
        have c8 : w3.cell? ⟨wr.heap.size, 0, none⟩ = some (.int .i64 v) := r8.cell 0
        have c9 : w3.cell? ⟨wr.heap.size, 1, none⟩ = some (.int .i64 0) := r8.cell 1
        have x1 : w3.cell? ⟨w1.heap.size, 1, none⟩ = some (.slice a0 ini.length c0) := st3.box.cell 1
        have hx1 := st3.box.lt
        have hz3 := r8.lt
        have FC := find_any w3.drew w1.heap.size pa pc l3 (OwnR.keeps st3.pr (Keeps.drewN w3 1 (fun _ => False)) (fun _ _ h => h)) v 0 (by omega)
        rw [hfn.out] at FC
        replace FC := Lib.hid FC
        have ST3 := Lib.hid (fun w4 (hb4 : Below w3.drew.heap.size w3.drew w4) => st3.below (show Below w3.heap.size w3 w4 from ⟨hb4.os, hb4.tape, hb4.output, hb4.size, hb4.block⟩))
        have hB3 := hb3.size
        have HB3 := Lib.hid hb3
        replace t1 := Lib.hid t1
        replace t2 := Lib.hid t2
        clear st3 r8 hb3
        go_wp2
        go_region_with (first
          | (go_at_call 18; (with_reducible refine FC.out.mono ?_); rintro e w4 ⟨rfl, hb4⟩; have st4 := ST3.out w4 hb4; have x4 : w4.cell? ⟨w1.heap.size, 1, none⟩ = some (.slice a0 ini.length c0) := st4.box.cell 1; have hz4 := hb4.size; have PC := Lib.hid (put_any w4 w1.heap.size a0 c0 ini st4.fst (by simp at hz4; omega) n (by omega)); replace st4 := Lib.hid st4; replace hb4 := Lib.hid hb4)
          | (go_at_call 19; (with_reducible refine PC.out.mono ?_); rintro e w5 ⟨a5, c5, rfl, ho5, hk5, hn5⟩; have rx := st4.out.box.keeps hk5 (fun e => (st4.out.iniC _ e).1.1 rfl); have x5 : w5.cell? ⟨w1.heap.size, 1, none⟩ = some (.slice a0 ini.length c0) := rx.cell 1; have f5 := rx.free 1; replace rx := Lib.hid rx; replace ho5 := Lib.hid ho5; replace hk5 := Lib.hid hk5))
        all_goals (
          have hb43 : Below w3.heap.size w3 w4 := ⟨hb4.out.os, hb4.out.tape, hb4.out.output, hb4.out.size, hb4.out.block⟩
          have hb44 := btrans HB3.out hb43
          have hb5 := Keeps.below hk5.out hb44 (fun j hj => by have := (st4.out.fst.lt2 hj).1; omega)
          have hb6 : Hid (Below w.heap.size w (w5.setCell ⟨w1.heap.size, 1, none⟩ (.slice a5 (putP ini n).length c5))) := bsetN hb5 (by omega)
          have s6 := Lib.hid (st4.out.first ho5.out hk5.out hn5.out)
          have q1 := Lib.hid (((t1.out.below hb43).keeps hk5.out (fun e => by have := (st4.out.fst.lt2 e).1; omega)).kset (n := w1.heap.size) (by omega) 1 (.slice a5 (putP ini n).length c5))
          have q2 := Lib.hid (((t2.out.below hb43).keeps hk5.out (fun e => by have := (st4.out.fst.lt2 e).1; omega)).kset (n := w1.heap.size) (by omega) 1 (.slice a5 (putP ini n).length c5))
          have hlp : Hid ((putP ini n).length ≤ k + 1) := by
            unfold Hid putP
            split
            · omega
            · simp; omega
          clear hb5 hb44 hb43 st4 hb4 ho5 hk5 hn5 rx t1 t2 x4 x5 f5 PC FC ST3 HB3 c8 c9 x1
          go_wp2
          go_roundw
          case rel => exact ⟨k + 1, _, pa, pc, a5, c5, putP ini n, by omega, by go_num, rfl, s6.out, q1.out, q2.out, hb6.out, hst, by omega, hlp.out⟩
          case measure => simp [intOf]; omega)
      · have hfn := find_new hm
        rw [if_neg hm] at F0
        obtain ⟨l3, hl3⟩ : ∃ l3, l3 = l ++ [(v, (0 : Int))] := ⟨_, rfl⟩
        have hlen : l3.length = l.length + 1 := by rw [hl3]; simp
        rw [← hl3] at hfn
        obtain ⟨hfn, hl1⟩ := hfn
        generalize numP l (v, 0) = q at hfn hl1 hst
        obtain ⟨l4, n⟩ := q
        simp only at hfn hl1 hst
        obtain rfl := hl1.symm
        replace hfn := Lib.hid hfn
        replace F0 := Lib.hid F0
        have nb8 : ∀ j, OBlk pa l.length pc = some j → w1.heap.size ≤ j ∧ j < wr.heap.size := fun j hj => OwnR.lt st.pr hj
        clear hm
        go_wp2_with fail
        refine F0.out.mono ?_
        rintro e w9 ⟨rfl, hb3'⟩
        have hb3w := btrans hA hb3'
        have st9 := Lib.hid (st.below hb3w)
        have r9 := r8.below hb3'
        have t19 := Lib.hid (t1.below hb3w)
        have t29 := Lib.hid (t2.below hb3w)
        have hb9 := Lib.hid (btrans hb hb3w)
        have hz9 : w1.heap.size + 1 ≤ w9.heap.size := by have := st9.out.box.lt; omega
        have c8 : w9.cell? ⟨wr.heap.size, 0, none⟩ = some (.int .i64 v) := r9.cell 0
        have c9 : w9.cell? ⟨wr.heap.size, 1, none⟩ = some (.int .i64 0) := r9.cell 1
        replace r9 := Lib.hid r9
        have NC : Hid (∀ j u, [Value.int .i64 v, .int .i64 0][j]? = some u → (w9.alloc (.cells #[.int .i64 v, .int .i64 0] TQ)).cell? ((⟨w9.heap.size, 0, none⟩ : Addr).add j) = some u) := new_cells w9 #[.int .i64 v, .int .i64 0] TQ rfl
        have OC : Hid (∀ u ∈ [Value.int .i64 v, .int .i64 0], u.oneCell' = true) := by intro u hu; simp at hu; rcases hu with rfl | rfl <;> rfl
        have hA3 := Lib.hid (balloc (Below.refl w9.heap.size w9) (.cells #[.int .i64 v, .int .i64 0] TQ))
        have OW := Lib.hid (OwnR.alloc st9.out.pr (.cells #[.int .i64 v, .int .i64 0] TQ))
        replace hl3 := Lib.hid hl3
        replace nb8 := Lib.hid nb8
        have hlen2 := Lib.hid hlen
        have n5 : Hid (l.length + 1 ≤ maxLen) := by show _ ≤ _; unfold maxLen; omega
        have y5 : Hid ((l.length + 1) * 16 ≤ 140737488355328) := by show _ ≤ _; omega
        have x5' : Hid (w1.heap.size ≤ (w9.alloc (.cells #[.int .i64 v, .int .i64 0] TQ)).heap.size) := by show _ ≤ _; simp; omega
        clear F0 st hb hA a1 cv hb3' hb3w hlen t1 t2 r8
        go_wp2_with (at_builtin; refine wp_appR rfl _ _ 50 TQ (.agg #[.int .i64 0, .int .i64 0]) 2 16 rfl Try.underlying50 infoQ rfl (by decide) w1.heap.size pa l.length pc (pcells l) rfl OW.out w9.heap.size 1 [.int .i64 v, .int .i64 0] rfl rfl NC.out OC.out n5.out y5.out x5'.out ?_)
        intro pa3 pc3 w3 ho3 hg3 hat3
        have st3 : RSt w3 w1.heap.size w1.heap.size (w.heap.size + 1) pa3 pc3 l3 a0 c0 ini none 0 [] [] := by
          rw [hl3.out]
          exact st9.out.pair (p := (v, 0)) hA3.out ho3 hg3 (hat3.imp (fun h => h) (fun h => ⟨_, by simp, h⟩))
        have r8 := (r9.out.alloc (.cells #[.int .i64 v, .int .i64 0] TQ)).grow hg3 (fun e => by have := (nb8.out _ e).2; omega)
        have t1 := (t19.out.alloc (.cells #[.int .i64 v, .int .i64 0] TQ)).grow hg3 (fun e => by have := (nb8.out _ e).1; omega)
        have t2 := (t29.out.alloc (.cells #[.int .i64 v, .int .i64 0] TQ)).grow hg3 (fun e => by have := (nb8.out _ e).1; omega)
        have hk3 : Keeps w9 w3 (fun j => OBlk pa l.length pc = some j) := (Keeps.of_below (S := fun j => OBlk pa l.length pc = some j) hA3.out).trans (Keeps.of_grown (S := fun j => OBlk pa l.length pc = some j) hg3 (fun j e => e)) (fun _ _ h => h)
        have hb3 := hk3.below hb9.out (fun j hj => by have := (nb8.out _ hj).1; omega)
        rw [← hlen2.out]
        replace hlen2 : l3.length ≤ k + 1 := by have := hlen2.out; omega
        clear hlk
        have hlk := hlen2
        clear hlen2 ho3 hg3 hat3 hk3 OW NC OC hA3 c8 c9 r9 t19 t29 hb9 st9 n5 y5 x5' nb8 hl3
        have c8 : w3.cell? ⟨wr.heap.size, 0, none⟩ = some (.int .i64 v) := r8.cell 0
        have c9 : w3.cell? ⟨wr.heap.size, 1, none⟩ = some (.int .i64 0) := r8.cell 1
        have x1 : w3.cell? ⟨w1.heap.size, 1, none⟩ = some (.slice a0 ini.length c0) := st3.box.cell 1
        have hx1 := st3.box.lt
        have hz3 := r8.lt
        have FC := find_any w3.drew w1.heap.size pa3 pc3 l3 (OwnR.keeps st3.pr (Keeps.drewN w3 1 (fun _ => False)) (fun _ _ h => h)) v 0 (by omega)
        rw [hfn.out] at FC
        replace FC := Lib.hid FC
        have ST3 := Lib.hid (fun w4 (hb4 : Below w3.drew.heap.size w3.drew w4) => st3.below (show Below w3.heap.size w3 w4 from ⟨hb4.os, hb4.tape, hb4.output, hb4.size, hb4.block⟩))
        have hB3 := hb3.size
        have HB3 := Lib.hid hb3
        replace t1 := Lib.hid t1
        replace t2 := Lib.hid t2
        clear st3 r8 hb3
        go_wp2
        go_region_with (first
          | (go_at_call 18; (with_reducible refine FC.out.mono ?_); rintro e w4 ⟨rfl, hb4⟩; have st4 := ST3.out w4 hb4; have x4 : w4.cell? ⟨w1.heap.size, 1, none⟩ = some (.slice a0 ini.length c0) := st4.box.cell 1; have hz4 := hb4.size; have PC := Lib.hid (put_any w4 w1.heap.size a0 c0 ini st4.fst (by simp at hz4; omega) n (by omega)); replace st4 := Lib.hid st4; replace hb4 := Lib.hid hb4)
          | (go_at_call 19; (with_reducible refine PC.out.mono ?_); rintro e w5 ⟨a5, c5, rfl, ho5, hk5, hn5⟩; have rx := st4.out.box.keeps hk5 (fun e => (st4.out.iniC _ e).1.1 rfl); have x5 : w5.cell? ⟨w1.heap.size, 1, none⟩ = some (.slice a0 ini.length c0) := rx.cell 1; have f5 := rx.free 1; replace rx := Lib.hid rx; replace ho5 := Lib.hid ho5; replace hk5 := Lib.hid hk5))
        all_goals (
          have hb43 : Below w3.heap.size w3 w4 := ⟨hb4.out.os, hb4.out.tape, hb4.out.output, hb4.out.size, hb4.out.block⟩
          have hb44 := btrans HB3.out hb43
          have hb5 := Keeps.below hk5.out hb44 (fun j hj => by have := (st4.out.fst.lt2 hj).1; omega)
          have hb6 : Hid (Below w.heap.size w (w5.setCell ⟨w1.heap.size, 1, none⟩ (.slice a5 (putP ini n).length c5))) := bsetN hb5 (by omega)
          have s6 := Lib.hid (st4.out.first ho5.out hk5.out hn5.out)
          have q1 := Lib.hid (((t1.out.below hb43).keeps hk5.out (fun e => by have := (st4.out.fst.lt2 e).1; omega)).kset (n := w1.heap.size) (by omega) 1 (.slice a5 (putP ini n).length c5))
          have q2 := Lib.hid (((t2.out.below hb43).keeps hk5.out (fun e => by have := (st4.out.fst.lt2 e).1; omega)).kset (n := w1.heap.size) (by omega) 1 (.slice a5 (putP ini n).length c5))
          have hlp : Hid ((putP ini n).length ≤ k + 1) := by
            unfold Hid putP
            split
            · omega
            · simp; omega
          clear hb5 hb44 hb43 st4 hb4 ho5 hk5 hn5 rx t1 t2 x4 x5 f5 PC FC ST3 HB3 c8 c9 x1
          go_wp2
          go_roundw
          case rel => exact ⟨k + 1, _, pa3, pc3, a5, c5, putP ini n, by omega, by go_num, rfl, s6.out, q1.out, q2.out, hb6.out, hst, by omega, hlp.out⟩
          case measure => simp [intOf]; omega)
    · obtain rfl : k = init.length := by omega
      have hrow2 : rowP 0 init ([], []) = (l, ini) := by have := hrow.out; rwa [List.take_length] at this
      have hgood0 : Hid (∀ p ∈ l, goodP nodes.length sn p) := by
        have h1 : ∀ p ∈ (rowP 0 init ([], [])).1, goodP nodes.length sn p := good_row init ([], []) (by simp) (fun q hq => by obtain ⟨h1, h2⟩ := g4.out q hq; exact ⟨q.toNat, 0, by simp; omega, by omega, by omega⟩)
        rw [hrow2] at h1
        exact h1
      have HR : Hid (∀ r, loopP ⟨(sn : Int), init, nodes⟩ 258 0 l [] = r → res = match r with | none => ((11 : Int), (⟨0, [], []⟩ : AU)) | some ns => (0, ⟨1, ini, ns⟩)) := fun r hr => by
        rw [← hr, hres.out]
        unfold oneP
        rw [if_neg (by rw [hc.out]; simp)]
        simp only [hrow2]
        rfl
      obtain ⟨r, hr⟩ : ∃ r, r = loopP ⟨(sn : Int), init, nodes⟩ 258 0 l [] := ⟨_, rfl⟩
      have HR2 := Lib.hid (HR.out r hr.symm)
      replace hr := Lib.hid hr.symm
      have ST0 := Lib.hid st
      have T10 := Lib.hid t1
      have T20 := Lib.hid t2
      have HB0 := Lib.hid hb
      clear hrow hrow2 hlk hik hres st t1 t2 hb hk HR
      go_wp2
      go_loopw [5, 9] (fun lv iv wr => ∃ (i : Nat) (l : List PR) (pa : Option Addr) (pc : Nat) (ao : Option Addr) (co : Nat) (out : List AN) (cells : List Value), i ≤ 256 ∧ iv = .int .i64 i ∧ lv = .slice pa l.length pc ∧ i ≤ l.length ∧ RSt wr w1.heap.size w1.heap.size (w.heap.size + 1) pa pc l a0 c0 ini ao co out cells ∧
          RowAt wr w.heap.size TA [.int .i64 (sn : Int), .slice ai init.length ci, .slice an nodes.length cn] ∧ RowAt wr (w.heap.size + 1) TA [.int .i64 0, .slice none 0 0, .slice none 0 0] ∧ Below w.heap.size w wr ∧
          Hid (∀ p ∈ l, goodP nodes.length sn p) ∧ Hid (loopP ⟨(sn : Int), init, nodes⟩ (258 - i) i l out = r) ∧ out.length = i) (fun _ iv _ => 257 - (intOf iv).toNat)
      case atStart => exact ⟨0, l, pa, pc, none, 0, [], [], Nat.zero_le _, rfl, rfl, Nat.zero_le _, ST0.out, T10.out, T20.out, HB0.out, hgood0, hr, rfl⟩
      case round =>
        obtain ⟨i, l, pa, pc, ao, co, out, cells, hi6, rfl, rfl, hil, st, t1, t2, hb, hgd, hlp, hol⟩ := hrel
        clear ST0 T10 T20 HB0 hgood0 hr
        replace hol := Lib.hid hol
        have hXl := st.box.lt
        have hi257 : (i : Int) < 257 := by omega
        have hfu : 258 - i = (257 - i) + 1 := by omega
        replace hlp : Hid ((if 256 < l.length then none else if i < l.length then loopP ⟨(sn : Int), init, nodes⟩ (257 - i) (i + 1) (nodeP ⟨(sn : Int), init, nodes⟩ l (l.getD i (0, 0))).1 (out ++ [(nodeP ⟨(sn : Int), init, nodes⟩ l (l.getD i (0, 0))).2]) else some out) = r) := by
          have := hlp.out
          rw [hfu] at this
          exact this
        clear hfu
        by_cases hlt : i < l.length
        · by_cases h256 : 256 < l.length
          · have hr2 : Hid (res = ((11 : Int), (⟨0, [], []⟩ : AU))) := by
              have h1 := hlp.out
              rw [if_pos h256] at h1
              have h2 := HR2.out
              rw [← h1] at h2
              exact h2
            have h256i : (256 : Int) < (l.length : Int) := by omega
            have hlti : (i : Int) < (l.length : Int) := by omega
            obtain rfl := hr2.out
            clear hr2 hlp HR2 h256 st t1
            have e0 : wr.cell? ⟨w.heap.size + 1, 0, none⟩ = some (.int .i64 0) := t2.cell 0
            have e1 : wr.cell? ⟨w.heap.size + 1, 1, none⟩ = some (.slice none 0 0) := t2.cell 1
            have e2 : wr.cell? ⟨w.heap.size + 1, 2, none⟩ = some (.slice none 0 0) := t2.cell 2
            have f0 := t2.free 0
            have f1 := t2.free 1
            have f2 := t2.free 2
            go_wp2
            refine bodyPost_ret (v := .tuple #[.agg #[.int .i64 0, .slice none 0 0, .slice none 0 0], .int .i64 11]) (by simp [results, Try.results11, go_sem, e0, e1, e2]) rfl ⟨none, 0, none, 0, rfl, NumsAt.nil _ _ _, NodesAt.nil _ _, ?_⟩
            exact bsetN (bsetN (bsetN hb (by omega)) (by omega)) (by omega)
          · obtain ⟨wo, hwo⟩ : ∃ wo, wo = wr := ⟨_, rfl⟩
            subst hwo
            have hlti : (i : Int) < (l.length : Int) := by omega
            have h256i : decide ((256 : Int) < (l.length : Int)) = false := by simp; omega
            have hget : l.getD i (0, 0) = l[i] := by rw [List.getD_eq_getElem?_getD, List.getElem?_eq_getElem hlt]; rfl
            obtain ⟨gp, hpa, hgpB, hgpl, p0, p1⟩ := st.pr.at i hlt
            obtain ⟨i0, t0, hp, hi0, ht0⟩ := hgd.out _ (List.getElem_mem hlt)
            have hli : Hid (l[i]? = some ((i0 : Int), (t0 : Int))) := by show _ = _; rw [List.getElem?_eq_getElem hlt, hp]
            rw [hget, hp] at hlp
            rw [hp] at p0 p1
            simp only at p0 p1
            clear hget hp
            have htl := hsz.out.2 _ (List.getElem_mem hi0)
            have hgn := good_node (A := ⟨(sn : Int), init, nodes⟩) rfl hc.out (l := l) hgd.out ⟨i0, t0, rfl, hi0, ht0⟩
            replace hlp : Hid (loopP ⟨(sn : Int), init, nodes⟩ (257 - i) (i + 1) (nodeP ⟨(sn : Int), init, nodes⟩ l ((i0 : Int), (t0 : Int))).1 (out ++ [(nodeP ⟨(sn : Int), init, nodes⟩ l ((i0 : Int), (t0 : Int))).2]) = r) := by
              have := hlp.out
              rwa [if_neg h256, if_pos hlt] at this
            have hget2 := nodeAt_get (A := ⟨(sn : Int), init, nodes⟩) hi0
            simp only at hget2
            obtain ⟨T, hT⟩ : ∃ T, T = turnP ⟨(sn : Int), init, nodes⟩ ((i0 : Int), (t0 : Int)) := ⟨_, rfl⟩
            obtain ⟨I, hI⟩ : ∃ I, I = inP ⟨(sn : Int), init, nodes⟩ ((i0 : Int), (t0 : Int)) := ⟨_, rfl⟩
            have hP : nodeP ⟨(sn : Int), init, nodes⟩ l ((i0 : Int), (t0 : Int)) = ((rowP T nodes[i0].to (l, [])).1, ⟨nodes[i0].need, nodes[i0].ban, I, (rowP T nodes[i0].to (l, [])).2⟩) := by
              unfold nodeP
              rw [← hT, ← hI, hget2]
            rw [hP] at hgn hlp
            simp only at hgn hlp
            unfold inP at hI
            simp only [hget2] at hI
            have TU : Hid (∀ w', Below w.heap.size w w' → Calls Try.prog 20 #[.agg #[.int .i64 (sn : Int), .slice ai init.length ci, .slice an nodes.length cn], .agg #[.int .i64 (i0 : Int), .int .i64 (t0 : Int)]] w' fun e w'' => e = .returned (.int .i64 T) ∧ Below w'.heap.size w' w'') := fun w' hb' => by
              rw [hT]
              exact turn_any w' sn ai init.length ci an cn init nodes (hn.out.below hb') (fun x hx => (ok.out.nodes x hx).2.2.1) g1 i0 hi0 t0 hsn (by omega)
            have hokx := (ok.out.nodes nodes[i0] (List.getElem_mem hi0)).2.2.1
            obtain ⟨bn, on, hab, q0, q1, q2, at_, ct, q3, hto⟩ := hn.out.at i0 hi0
            replace q0 := bcell hb q0
            replace q1 := bcell hb q1
            replace q2 := bcell hb q2
            replace q3 := bcell hb q3
            clear hT hP hget2
            generalize nodes[i0] = x at hI htl hokx q0 q1 q2 q3 hto hgn hlp
            obtain ⟨xn, xb, xi, xt⟩ := x
            simp only at hI htl hokx q0 q1 q2 q3 hto hgn hlp
            have hbt0 : (bits .and .u64 (xi : Int) 1 == 1) = bitN xi 0 := by
              have h1 := bit_test (n := xi) (s := 0) hokx
              rw [show ((xi : Int) / 2 ^ 0) = (xi : Int) by simp] at h1
              exact h1
            replace hI := Lib.hid hI
            replace hokx := Lib.hid hokx
            replace htl := Lib.hid htl
            replace g1 := Lib.hid g1
            replace hi6 := Lib.hid hi6
            replace hgn := Lib.hid hgn
            replace hto := Lib.hid hto
            replace h256 := Lib.hid h256
            have hbn := World.block_lt_of_cell? wo _ q0
            simp only at hbn
            have hi0n : (i0 : Int) < (nodes.length : Int) := by omega
            have hbS := hb.size
            subst hab
            subst hpa
            have a0' : wo.cell? ⟨w.heap.size, 0, none⟩ = some (.int .i64 (sn : Int)) := t1.cell 0
            have a1 : wo.cell? ⟨w.heap.size, 1, none⟩ = some (.slice ai init.length ci) := t1.cell 1
            have a2 : wo.cell? ⟨w.heap.size, 2, none⟩ = some (.slice (some ⟨bn, on, none⟩) nodes.length cn) := t1.cell 2
            have hbZ : Below wo.heap.size wo ((wo.alloc (.cells #[.int .u64 0, .int .u64 0, .int .u64 0, .slice none 0 0] TN)).drew) := (balloc (Below.refl _ _) _).drew
            have z2 : ((wo.alloc (.cells #[.int .u64 0, .int .u64 0, .int .u64 0, .slice none 0 0] TN)).drew).cell? ⟨w.heap.size, 2, none⟩ = some (.slice (some ⟨bn, on, none⟩) nodes.length cn) := bcell hbZ a2
            have y0 := bcell hbZ q0
            have y1 := bcell hbZ q1
            have y2 := bcell hbZ q2
            have y3 := bcell hbZ q3
            have v0 := bcell hbZ p0
            have v1 := bcell hbZ p1
            have rz : RowAt ((wo.alloc (.cells #[.int .u64 0, .int .u64 0, .int .u64 0, .slice none 0 0] TN)).drew) wo.heap.size TN [.int .u64 0, .int .u64 0, .int .u64 0, .slice none 0 0] := RowAt.new (w := wo) #[.int .u64 0, .int .u64 0, .int .u64 0, .slice none 0 0] rfl
            have f0 := rz.free 0
            have f1 := rz.free 1
            have f2 := rz.free 2
            have f3 := rz.free 3
            have u0 := rz.cell 0
            have u1 := rz.cell 1
            have u2 := rz.cell 2
            have u3 := rz.cell 3
            replace hbZ := Lib.hid hbZ
            replace rz := Lib.hid rz
            replace t1 := Lib.hid t1
            replace t2 := Lib.hid t2
            replace st := Lib.hid st
            replace hb := Lib.hid hb
            go_wp2
            go_region
            have n10 : RowAt ((wo.alloc (.cells #[.int .u64 xn, .int .u64 xb, .int .u64 xi, .slice at_ xt.length ct] TN)).drew) wo.heap.size TN [.int .u64 xn, .int .u64 xb, .int .u64 xi, .slice at_ xt.length ct] := RowAt.new (w := wo) #[.int .u64 xn, .int .u64 xb, .int .u64 xi, .slice at_ xt.length ct] rfl
            have hb2 : Below wo.heap.size wo ((wo.alloc (.cells #[.int .u64 xn, .int .u64 xb, .int .u64 xi, .slice at_ xt.length ct] TN)).drew) := (balloc (Below.refl _ _) _).drew
            have hz2 : ((wo.alloc (.cells #[.int .u64 xn, .int .u64 xb, .int .u64 xi, .slice at_ xt.length ct] TN)).drew).heap.size = wo.heap.size + 1 := by simp
            clear z2 y0 y1 y2 y3 v0 v1 f0 f1 f2 f3 u0 u1 u2 u3 hbZ rz
            generalize (wo.alloc (.cells #[.int .u64 xn, .int .u64 xb, .int .u64 xi, .slice at_ xt.length ct] TN)).drew = w2 at n10 hb2 hz2 ⊢
            have hA3 : Below w2.heap.size w2 (w2.alloc (.cells #[.int .u64 xn, .int .u64 xb, .int .u64 0, .slice none 0 0] TN)) := balloc (Below.refl _ _) _
            have n11 : RowAt (w2.alloc (.cells #[.int .u64 xn, .int .u64 xb, .int .u64 0, .slice none 0 0] TN)) (wo.heap.size + 1) TN [.int .u64 xn, .int .u64 xb, .int .u64 0, .slice none 0 0] := RowAt.new (w := w2) #[.int .u64 xn, .int .u64 xb, .int .u64 0, .slice none 0 0] hz2.symm
            have k0 : w2.cell? ⟨wo.heap.size, 0, none⟩ = some (.int .u64 xn) := n10.cell 0
            have k1 : w2.cell? ⟨wo.heap.size, 1, none⟩ = some (.int .u64 xb) := n10.cell 1
            have n10' := n10.below hA3
            have hb3 := btrans hb2 hA3
            have hz2' : Hid (w2.heap.size = wo.heap.size + 1) := hz2
            have j2 : (w2.alloc (.cells #[.int .u64 xn, .int .u64 xb, .int .u64 0, .slice none 0 0] TN)).cell? ⟨wo.heap.size, 2, none⟩ = some (.int .u64 xi) := n10'.cell 2
            have j4 : (w2.alloc (.cells #[.int .u64 xn, .int .u64 xb, .int .u64 0, .slice none 0 0] TN)).cell? ⟨wo.heap.size + 1, 2, none⟩ = some (.int .u64 0) := n11.cell 2
            have jf := n11.free 2
            have b0 := bcell hb3 a0'
            have v0 := bcell hb3 p0
            have v1 := bcell hb3 p1
            clear n10 hb2 hz2 hA3
            replace n10' := Lib.hid n10'
            replace hb3 := Lib.hid hb3
            replace n11 := Lib.hid n11
            replace h256i := Lib.hid h256i
            clear q0 q1 q2 q3 p0 p1 a0' a1 a2
            go_upto_region 20 with (fail)
            rw [hz2'.out]
            obtain ⟨w3, hw3⟩ : ∃ w3, w3 = w2.alloc (.cells #[.int .u64 xn, .int .u64 xb, .int .u64 0, .slice none 0 0] TN) := ⟨_, rfl⟩
            rw [← hw3] at n10' n11 hb3 j2 j4 jf b0 v0 v1 ⊢
            replace hw3 := Lib.hid hw3
            obtain ⟨bI, hbI⟩ : ∃ bI, bI = decide (I = 1) := ⟨_, rfl⟩
            replace hbI := Lib.hid hbI
            go_cut [89] (fun c wx => c = .bool bI ∧ wx = w3)
            case first =>
              by_cases hs0 : sn = 0
              · have hI2 : Hid (I = 1) := by have := hI.out; rwa [if_pos (.inl (by omega))] at this
                have hsb : ((sn : Int) == 0) = true := by simp; omega
                clear hs0 hbt0
                go_wp2
                go_meet
                exact ⟨by rw [hbI.out, hI2.out]; rfl, rfl⟩
              have hsb : ((sn : Int) == 0) = false := by simp; omega
              by_cases ht00 : t0 = 0
              · have htb : ((t0 : Int) == 0) = true := by simp; omega
                cases hbb : bitN xi 0 with
                | true =>
                  rw [hbb] at hbt0
                  have hI2 : Hid (I = 1) := by have := hI.out; rwa [if_pos (.inr ⟨by omega, hbb⟩)] at this
                  clear hs0 hbb ht00
                  go_wp2
                  go_meet
                  exact ⟨by rw [hbI.out, hI2.out]; rfl, rfl⟩
                | false =>
                  rw [hbb] at hbt0
                  have hI2 : Hid (I = 0) := by have := hI.out; rwa [if_neg (by rw [hbb]; simp; omega)] at this
                  clear hs0 hbb ht00
                  go_wp2
                  go_meet
                  exact ⟨by rw [hbI.out, hI2.out]; rfl, rfl⟩
              · have htb : ((t0 : Int) == 0) = false := by simp; omega
                have hI2 : Hid (I = 0) := by have := hI.out; rwa [if_neg (by omega)] at this
                clear hs0 ht00 hbt0
                go_wp2
                go_meet
                exact ⟨by rw [hbI.out, hI2.out]; rfl, rfl⟩
            case rest =>
              obtain ⟨rfl, hwc⟩ := hcut
              obtain rfl := hwc.symm
              go_upto_if 89 with (fail)
              go_cut [89] (fun _ wx => RowAt wx wo.heap.size TN [.int .u64 xn, .int .u64 xb, .int .u64 xi, .slice at_ xt.length ct] ∧ RowAt wx (wo.heap.size + 1) TN [.int .u64 xn, .int .u64 xb, .int .u64 I, .slice none 0 0] ∧ Below wo.heap.size wo wx)
              case first =>
                have hI2 : Hid (I = if bI = true then 1 else 0) := by
                  show _ = _
                  rw [hbI.out]
                  by_cases hI1 : I = 1
                  · rw [hI1]; rfl
                  · have h1 := hI.out
                    split at h1
                    · exact absurd h1 hI1
                    · rw [h1]; rfl
                clear hbI
                cases bI with
                | true =>
                  go_wp2
                  go_meet
                  refine ⟨n10'.out.kset (n := wo.heap.size + 1) (by omega) 2 (.int .u64 1), ?_, bsetN (n := wo.heap.size + 1) (j := 2) (v := .int .u64 1) hb3.out (by omega)⟩
                  rw [hI2.out]
                  exact n11.out.set 2 (.int .u64 1)
                | false =>
                  go_wp2
                  go_meet
                  refine ⟨n10'.out, ?_, hb3.out⟩
                  rw [hI2.out]
                  exact n11.out
              case rest =>
                obtain ⟨hc1, hc2, hc3⟩ := hcut
                clear hbt0

                have hin0 := Lib.hid (RIn.start st.out hc3 hc1 hc2)
                have q1' := Lib.hid (t1.out.below hc3)
                have q2' := Lib.hid (t2.out.below hc3)
                have hb4 := Lib.hid (btrans hb.out hc3)
                clear hc1 hc2 hc3 n10' n11 hb3 j2 j4 jf b0 v0 v1 k0 k1 hz2' hI t1 t2 hb hw3
                go_wp2
                go_loopw [5, 12] (fun lv jv wr => ∃ (k : Nat) (lj : List PR) (pj : Option Addr) (pjc : Nat) (ap : Option Addr) (cp : Nat) (put : List Int), k ≤ xt.length ∧ jv = .int .i64 k ∧ lv = .slice pj lj.length pjc ∧ RIn wr w1.heap.size w1.heap.size (w.heap.size + 1) wo.heap.size pj pjc lj a0 c0 ini ao co out cells [.int .u64 xn, .int .u64 xb, .int .u64 xi, .slice at_ xt.length ct] xn xb I ap cp put ∧
                    RowAt wr w.heap.size TA [.int .i64 (sn : Int), .slice ai init.length ci, .slice (some ⟨bn, on, none⟩) nodes.length cn] ∧ RowAt wr (w.heap.size + 1) TA [.int .i64 0, .slice none 0 0, .slice none 0 0] ∧ Below w.heap.size w wr ∧
                    Hid (rowP T (xt.take k) (l, []) = (lj, put)) ∧ Hid (lj[i]? = some ((i0 : Int), (t0 : Int))) ∧ Hid (lj.length ≤ l.length + k ∧ put.length ≤ k)) (fun _ jv _ => xt.length - (intOf jv).toNat)
                case atStart => exact ⟨0, l, some ⟨gp, 0, none⟩, pc, none, 0, [], Nat.zero_le _, rfl, rfl, hin0.out, q1'.out, q2'.out, hb4.out, rfl, hli, ⟨Nat.le_refl _, Nat.le_refl _⟩⟩
                case round =>
                  obtain ⟨k, lj, pj, pjc, ap, cp, put, hk, rfl, rfl, rin, t1, t2, hbi, hrow, hlj, hln⟩ := hrel
                  clear hin0 q1' q2' hb4
                  have z3 : wr.cell? ⟨wo.heap.size, 3, none⟩ = some (.slice at_ xt.length ct) := rin.n10.cell 3
                  have hKl := rin.n11.lt
                  by_cases hkl : k < xt.length
                  · obtain ⟨bt, ot, v, hat, cv, hv⟩ := (hto.out.below hbi).at k hkl
                    have hv2 : v = xt[k] := by rw [hv.out, List.getD_eq_getElem?_getD, List.getElem?_eq_getElem hkl]; rfl
                    have hst : Hid (rowP T (xt.take (k + 1)) (l, []) = ((numP lj (v, T)).1, putP put (numP lj (v, T)).2)) := by
                      show _ = _
                      rw [rowP_snoc T xt k hkl, hrow.out, ← hv2]
                      rfl
                    have hlt2 : i < lj.length := (List.getElem?_eq_some_iff.1 hlj.out).1
                    have hlje : lj[i] = ((i0 : Int), (t0 : Int)) := (List.getElem?_eq_some_iff.1 hlj.out).2
                    obtain ⟨gq, hpj, hgqB, hgql, p0, p1⟩ := rin.pr.at i hlt2
                    rw [hlje] at p0 p1
                    simp only at p0 p1
                    have hki : (k : Int) < (xt.length : Int) := by omega
                    have hk3 : (k : Int) < 2001 := by have := htl.out; omega
                    have hij : (i : Int) < (lj.length : Int) := by omega
                    subst hat
                    subst hpj
                    clear hv hv2 hlje hrow
                    have a0' : wr.cell? ⟨w.heap.size, 0, none⟩ = some (.int .i64 (sn : Int)) := t1.cell 0
                    have a1' : wr.cell? ⟨w.heap.size, 1, none⟩ = some (.slice ai init.length ci) := t1.cell 1
                    have a2' : wr.cell? ⟨w.heap.size, 2, none⟩ = some (.slice (some ⟨bn, on, none⟩) nodes.length cn) := t1.cell 2
                    have SB : Hid (∀ w', Below wr.heap.size wr w' → w'.cell? ⟨wo.heap.size, 3, none⟩ = some (.slice (some ⟨bt, ot, none⟩) xt.length ct) ∧ w'.cell? ⟨bt, ot + k, none⟩ = some (.int .i64 v) ∧ w'.cell? ⟨w.heap.size, 0, none⟩ = some (.int .i64 (sn : Int)) ∧ w'.cell? ⟨w.heap.size, 1, none⟩ = some (.slice ai init.length ci) ∧ w'.cell? ⟨w.heap.size, 2, none⟩ = some (.slice (some ⟨bn, on, none⟩) nodes.length cn) ∧ w'.cell? ⟨gq, i * 2, none⟩ = some (.int .i64 i0) ∧ w'.cell? ⟨gq, i * 2 + 1, none⟩ = some (.int .i64 t0)) :=
                      fun w' h => ⟨bcell h z3, bcell h cv, bcell h a0', bcell h a1', bcell h a2', bcell h p0, bcell h p1⟩
                    have hbZ : Below wr.heap.size wr ((wr.alloc (.cells #[.int .i64 0, .int .i64 0] TQ)).drew) := (balloc (Below.refl _ _) _).drew
                    have CR := Lib.hid (TU.out wr.drew hbi.drew)
                    have CS := Lib.hid (TU.out ((wr.alloc (.cells #[.int .i64 0, .int .i64 0] TQ)).drew) (btrans hbi hbZ))
                    have rz := Lib.hid (RowAt.new (w := wr) (T := TQ) #[.int .i64 0, .int .i64 0] rfl)
                    replace rin := Lib.hid rin
                    replace t1 := Lib.hid t1
                    replace t2 := Lib.hid t2
                    replace hbi := Lib.hid hbi
                    replace hbZ := Lib.hid hbZ
                    go_wp2
                    go_upto_region 25 with (fail)
                    go_cut [13] (fun p wx => ∃ N : Nat, p = .pointer (some ⟨N, 0, none⟩) ∧ RowAt wx N TQ [.int .i64 v, .int .i64 T] ∧ Below wr.heap.size wr wx ∧ wr.heap.size ≤ N)
                    case first =>
                      go_region_held3 (fun w' => w'.cell? ⟨wo.heap.size, 3, none⟩ = some (.slice (some ⟨bt, ot, none⟩) xt.length ct) ∧ w'.cell? ⟨bt, ot + k, none⟩ = some (.int .i64 v) ∧ w'.cell? ⟨w.heap.size, 0, none⟩ = some (.int .i64 (sn : Int)) ∧ w'.cell? ⟨w.heap.size, 1, none⟩ = some (.slice ai init.length ci) ∧ w'.cell? ⟨w.heap.size, 2, none⟩ = some (.slice (some ⟨bn, on, none⟩) nodes.length cn) ∧ w'.cell? ⟨gq, i * 2, none⟩ = some (.int .i64 i0) ∧ w'.cell? ⟨gq, i * 2 + 1, none⟩ = some (.int .i64 t0)) (first | exact SB.out _ hbYs | exact SB.out _ hbYa | exact SB.out _ hbYz | exact SB.out _ hbY2 | exact ⟨z3, cv, a0', a1', a2', p0, p1⟩ | exact SB.out _ hbZ.out) (first
                        | (go_at_call 20; (with_reducible refine CR.out.mono ?_); rintro r wY ⟨rfl, hbY⟩; have hbY2 : Below wr.heap.size wr wY := ⟨hbY.os, hbY.tape, hbY.output, hbY.size, hbY.block⟩; have hbYa := balloc hbY2 (.cells #[.int .i64 v, .int .i64 T] TQ); have hbYz := balloc hbY2 (.cells #[.int .i64 0, .int .i64 0] TQ))
                        | (go_at_call 20; (with_reducible refine CS.out.mono ?_); rintro r wY ⟨rfl, hbY⟩; have hbY2 : Below wr.heap.size wr wY := btrans hbZ.out hbY; have ry := RowAt.below (w := (wr.alloc (.cells #[.int .i64 0, .int .i64 0] TQ)).drew) rz.out hbY; have d0 : wY.cell? ⟨wr.heap.size, 0, none⟩ = some (.int .i64 0) := ry.cell 0; have d1 : wY.cell? ⟨wr.heap.size, 1, none⟩ = some (.int .i64 0) := ry.cell 1; have g0 := ry.free 0; have g1 := ry.free 1; have hbYs := bsetN (n := wr.heap.size) (j := 1) (v := .int .i64 T) (bsetN (n := wr.heap.size) (j := 0) (v := .int .i64 v) hbY2 (Nat.le_refl _)) (Nat.le_refl _)))
                      all_goals first
                        | (have r13 := (ry.set 0 (.int .i64 v)).set 1 (.int .i64 T)
                           simp only [List.set_cons_zero, List.set_cons_succ] at r13
                           have hb13 := hbYs
                           clear ry d0 d1 g0 g1 hbYs hbY2 hbY
                           go_wp2_with fail
                           go_meet
                           exact ⟨wr.heap.size, rfl, r13, hb13, Nat.le_refl _⟩)
                        | (have r13 := RowAt.new (w := wY) (T := TQ) #[.int .i64 v, .int .i64 T] rfl
                           have hb13 := hbYa
                           have hN := hbY2.size
                           clear hbYa hbYz hbY2 hbY
                           go_wp2_with fail
                           go_meet
                           exact ⟨wY.heap.size, rfl, r13, hb13, hN⟩)
                    case rest =>
                      obtain ⟨N, rfl, r13, hb13, hN⟩ := hcut
                      clear a0' a1' a2' z3 cv p0 p1 CR CS SB hbZ rz
                      have rin4 := Lib.hid (rin.out.below hb13)
                      have t14 := Lib.hid (t1.out.below hb13)
                      have t24 := Lib.hid (t2.out.below hb13)
                      have hb4 := Lib.hid (btrans hbi.out hb13)
                      have HL0 : Hid (lj.length ≤ 5000 ∧ put.length ≤ 5000) := by
                        have h1 := hln.out
                        have h2 := htl.out
                        have h3 := h256.out
                        exact ⟨by omega, by omega⟩
                      have nb8 : Hid (∀ j, OBlk (some ⟨gq, 0, none⟩) lj.length pjc = some j → w1.heap.size ≤ j ∧ j < wr.heap.size) := fun j hj => OwnR.lt rin.out.pr hj
                      have F0 := find_any wc w1.heap.size (some ⟨gq, 0, none⟩) pjc lj rin4.out.pr v T (by have := HL0.out; omega)
                      obtain ⟨rv, hrv⟩ : ∃ rv, rv = (if (v, T) ∈ lj then (lj.idxOf (v, T) : Int) else -1) := ⟨_, rfl⟩
                      rw [← hrv] at F0
                      obtain ⟨l3, hl3⟩ : ∃ l3, l3 = (numP lj (v, T)).1 := ⟨_, rfl⟩
                      obtain ⟨n, hn3⟩ : ∃ n, n = (numP lj (v, T)).2 := ⟨_, rfl⟩
                      have hfn := find_any_num lj (v, T)
                      have hlen3 := numP_len lj (v, T)
                      have hlj3 : Hid (l3[i]? = some ((i0 : Int), (t0 : Int))) := by
                        show _ = _
                        rw [hl3]
                        obtain ⟨r', hr', _⟩ := numP_pre lj (v, T)
                        rw [hr', List.getElem?_append_left hlt2]
                        exact hlj.out
                      rw [← hl3, ← hn3] at hfn hst
                      rw [← hl3] at hlen3
                      have HL2 : Hid (l3.length ≤ l.length + k + 1 ∧ put.length ≤ k) := ⟨by have := hln.out; omega, hln.out.2⟩
                      have HL : Hid (l3.length ≤ 5001 ∧ put.length ≤ 5000) := ⟨by have := HL0.out; omega, HL0.out.2⟩
                      replace F0 := Lib.hid F0
                      replace hrv := Lib.hid hrv
                      replace hl3 := Lib.hid hl3
                      replace hn3 := Lib.hid hn3
                      replace hfn := Lib.hid hfn
                      replace hst := Lib.hid hst
                      have c80 : wc.cell? ⟨N, 0, none⟩ = some (.int .i64 v) := r13.cell 0
                      have c81 : wc.cell? ⟨N, 1, none⟩ = some (.int .i64 T) := r13.cell 1
                      replace r13 := Lib.hid r13
                      clear t1 t2 rin hbi hb13 hlen3
                      go_wp2_with fail
                      refine F0.out.mono ?_
                      rintro e w9 ⟨rfl, hb3'⟩
                      have st9 := Lib.hid (rin4.out.below hb3')
                      have r9 := r13.out.below hb3'
                      have t19 := Lib.hid (t14.out.below hb3')
                      have t29 := Lib.hid (t24.out.below hb3')
                      have hb9 := Lib.hid (btrans hb4.out hb3')
                      have hz9 : w1.heap.size + 1 ≤ w9.heap.size := by have := st9.out.box.lt; omega
                      have c8 : w9.cell? ⟨N, 0, none⟩ = some (.int .i64 v) := r9.cell 0
                      have c9 : w9.cell? ⟨N, 1, none⟩ = some (.int .i64 T) := r9.cell 1
                      replace r9 := Lib.hid r9
                      clear F0 rin4 r13 t14 t24 hb4 c80 c81 hb3'
                      go_upto_if 113 with (fail)
                      go_cut [5] (fun lv wx => ∃ (pa3 : Option Addr) (pc3 : Nat), lv = .slice pa3 l3.length pc3 ∧ RIn wx w1.heap.size w1.heap.size (w.heap.size + 1) wo.heap.size pa3 pc3 l3 a0 c0 ini ao co out cells [.int .u64 xn, .int .u64 xb, .int .u64 xi, .slice (some ⟨bt, ot, none⟩) xt.length ct] xn xb I ap cp put ∧ RowAt wx N TQ [.int .i64 v, .int .i64 T] ∧
                        RowAt wx w.heap.size TA [.int .i64 (sn : Int), .slice ai init.length ci, .slice (some ⟨bn, on, none⟩) nodes.length cn] ∧ RowAt wx (w.heap.size + 1) TA [.int .i64 0, .slice none 0 0, .slice none 0 0] ∧ Below w.heap.size w wx)
                      case first =>
                        by_cases hm : (v, T) ∈ lj
                        · have hrn : 0 ≤ rv := by rw [hrv.out, if_pos hm]; omega
                          have hd : decide (rv < 0) = false := by simp; omega
                          have hl3' : Hid (l3 = lj) := by show _ = _; rw [hl3.out]; unfold numP; rw [if_pos hm]
                          clear hm
                          go_wp2
                          go_meet
                          rw [hl3'.out]
                          exact ⟨_, _, rfl, st9.out, r9.out, t19.out, t29.out, hb9.out⟩
                        · have hrn : rv < 0 := by rw [hrv.out, if_neg hm]; omega
                          have hd : decide (rv < 0) = true := by simp; omega
                          have hl3' : Hid (l3 = lj ++ [(v, T)]) := by show _ = _; rw [hl3.out]; unfold numP; rw [if_neg hm]
                          have hlen2 : Hid (l3.length = lj.length + 1) := by show _ = _; rw [hl3'.out]; simp
                          have NC : Hid (∀ j u, [Value.int .i64 v, .int .i64 T][j]? = some u → (w9.alloc (.cells #[.int .i64 v, .int .i64 T] TQ)).cell? ((⟨w9.heap.size, 0, none⟩ : Addr).add j) = some u) := new_cells w9 #[.int .i64 v, .int .i64 T] TQ rfl
                          have OC : Hid (∀ u ∈ [Value.int .i64 v, .int .i64 T], u.oneCell' = true) := by intro u hu; simp at hu; rcases hu with rfl | rfl <;> rfl
                          have hA3 := Lib.hid (balloc (Below.refl w9.heap.size w9) (.cells #[.int .i64 v, .int .i64 T] TQ))
                          have OW := Lib.hid (OwnR.alloc st9.out.pr (.cells #[.int .i64 v, .int .i64 T] TQ))
                          have n5 : Hid (lj.length + 1 ≤ maxLen) := by show _ ≤ _; unfold maxLen; have := HL0.out; omega
                          have y5 : Hid ((lj.length + 1) * 16 ≤ 140737488355328) := by show _ ≤ _; have := HL0.out; omega
                          have x5' : Hid (w1.heap.size ≤ (w9.alloc (.cells #[.int .i64 v, .int .i64 T] TQ)).heap.size) := by show _ ≤ _; simp; omega
                          clear hm
                          go_wp2_with (at_builtin; refine wp_appR rfl _ _ 50 TQ (.agg #[.int .i64 0, .int .i64 0]) 2 16 rfl Try.underlying50 infoQ rfl (by decide) w1.heap.size (some ⟨gq, 0, none⟩) lj.length pjc (pcells lj) rfl OW.out w9.heap.size 1 [.int .i64 v, .int .i64 T] rfl rfl NC.out OC.out n5.out y5.out x5'.out ?_)
                          intro pa3 pc3 w3 ho3 hg3 hat3
                          have rin3 : RIn w3 w1.heap.size w1.heap.size (w.heap.size + 1) wo.heap.size pa3 pc3 l3 a0 c0 ini ao co out cells [.int .u64 xn, .int .u64 xb, .int .u64 xi, .slice (some ⟨bt, ot, none⟩) xt.length ct] xn xb I ap cp put := by
                            rw [hl3'.out]
                            exact st9.out.pair (p := (v, T)) hA3.out ho3 hg3 (hat3.imp (fun h => h) (fun h => ⟨_, by simp, h⟩))
                          have r8 := (r9.out.alloc (.cells #[.int .i64 v, .int .i64 T] TQ)).grow hg3 (fun e => by have := (nb8.out _ e).2; omega)
                          have t1 := (t19.out.alloc (.cells #[.int .i64 v, .int .i64 T] TQ)).grow hg3 (fun e => by have := (nb8.out _ e).1; omega)
                          have t2 := (t29.out.alloc (.cells #[.int .i64 v, .int .i64 T] TQ)).grow hg3 (fun e => by have := (nb8.out _ e).1; omega)
                          have hk3 : Keeps w9 w3 (fun j => OBlk (some ⟨gq, 0, none⟩) lj.length pjc = some j) := (Keeps.of_below (S := fun j => OBlk (some ⟨gq, 0, none⟩) lj.length pjc = some j) hA3.out).trans (Keeps.of_grown (S := fun j => OBlk (some ⟨gq, 0, none⟩) lj.length pjc = some j) hg3 (fun j e => e)) (fun _ _ h => h)
                          have hb3 := hk3.below hb9.out (fun j hj => by have := (nb8.out _ hj).1; omega)
                          clear hk3 ho3 hg3 hat3
                          go_wp2
                          go_meet
                          exact ⟨pa3, pc3, by rw [hlen2.out], rin3, r8, t1, t2, hb3⟩
                      case rest =>
                        obtain ⟨pa3, pc3, rfl, rin3, r8, t1, t2, hb3⟩ := hcut
                        clear st9 r9 t19 t29 hb9 c8 c9 nb8 hl3 hn3 hrv
                        generalize wc = w3 at rin3 r8 t1 t2 hb3 ⊢
                        have c8 : w3.cell? ⟨N, 0, none⟩ = some (.int .i64 v) := r8.cell 0
                        have c9 : w3.cell? ⟨N, 1, none⟩ = some (.int .i64 T) := r8.cell 1
                        have x3 : w3.cell? ⟨wo.heap.size + 1, 3, none⟩ = some (.slice ap put.length cp) := rin3.n11.cell 3
                        have hz3 := r8.lt
                        have hx3 := rin3.n11.lt
                        have FC := find_any w3.drew w1.heap.size pa3 pc3 l3 (OwnR.keeps rin3.pr (Keeps.drewN w3 1 (fun _ => False)) (fun _ _ h => h)) v T (by have := HL.out; omega)
                        rw [hfn.out] at FC
                        replace FC := Lib.hid FC
                        have ST3 := Lib.hid (fun w4 (hb4 : Below w3.drew.heap.size w3.drew w4) => rin3.below (show Below w3.heap.size w3 w4 from ⟨hb4.os, hb4.tape, hb4.output, hb4.size, hb4.block⟩))
                        have hB3 := hb3.size
                        have HB3 := Lib.hid hb3
                        replace t1 := Lib.hid t1
                        replace t2 := Lib.hid t2
                        clear rin3 r8 hb3
                        go_wp2
                        go_region_with (first
                          | (go_at_call 18; (with_reducible refine FC.out.mono ?_); rintro e w4 ⟨rfl, hb4⟩; have st4 := ST3.out w4 hb4; have x4 : w4.cell? ⟨wo.heap.size + 1, 3, none⟩ = some (.slice ap put.length cp) := st4.n11.cell 3; have hz4 := hb4.size; have PC := Lib.hid (put_any w4 (wo.heap.size + 2) ap cp put st4.to (by have := st4.n11.lt; omega) n (by have := HL.out; omega)); replace st4 := Lib.hid st4; replace hb4 := Lib.hid hb4)
                          | (go_at_call 19; (with_reducible refine PC.out.mono ?_); rintro e w5 ⟨a5, c5, rfl, ho5, hk5, hn5⟩; have rx := st4.out.n11.keeps hk5 (fun e => by have := (st4.out.to.lt2 e).1; omega); have x5 : w5.cell? ⟨wo.heap.size + 1, 3, none⟩ = some (.slice ap put.length cp) := rx.cell 3; have f5 := rx.free 3; replace rx := Lib.hid rx; replace ho5 := Lib.hid ho5; replace hk5 := Lib.hid hk5))
                        all_goals (
                          have hb43 : Below w3.heap.size w3 w4 := ⟨hb4.out.os, hb4.out.tape, hb4.out.output, hb4.out.size, hb4.out.block⟩
                          have hb44 := btrans HB3.out hb43
                          have hb5 := Keeps.below hk5.out hb44 (fun j hj => by have := (st4.out.to.lt2 hj).1; omega)
                          have hb6 : Hid (Below w.heap.size w (w5.setCell ⟨wo.heap.size + 1, 3, none⟩ (.slice a5 (putP put n).length c5))) := bsetN hb5 (by omega)
                          have s6 := Lib.hid (st4.out.put' ho5.out hk5.out hn5.out)
                          have q1 := Lib.hid (((t1.out.below hb43).keeps hk5.out (fun e => by have := (st4.out.to.lt2 e).1; omega)).kset (n := wo.heap.size + 1) (by omega) 3 (.slice a5 (putP put n).length c5))
                          have q2 := Lib.hid (((t2.out.below hb43).keeps hk5.out (fun e => by have := (st4.out.to.lt2 e).1; omega)).kset (n := wo.heap.size + 1) (by omega) 3 (.slice a5 (putP put n).length c5))
                          have hlp2 : Hid (l3.length ≤ l.length + (k + 1) ∧ (putP put n).length ≤ k + 1) := by
                            have h1 := HL2.out
                            refine ⟨by omega, ?_⟩
                            unfold putP
                            split
                            · omega
                            · simp; omega
                          clear hb5 hb44 hb43 st4 hb4 ho5 hk5 hn5 rx t1 t2 x4 x5 f5 PC FC ST3 HB3 c8 c9 x3
                          go_wp2
                          go_roundw
                          case rel => exact ⟨k + 1, _, pa3, pc3, a5, c5, putP put n, by omega, by go_num, rfl, s6.out, q1.out, q2.out, hb6.out, hst, hlj3, hlp2⟩
                          case measure => simp [intOf]; omega)
                  · obtain rfl : k = xt.length := by omega
                    have hrow2 : rowP T xt (l, []) = (lj, put) := by have := hrow.out; rwa [List.take_length] at this
                    replace hgn : Hid (∀ p ∈ lj, goodP nodes.length sn p) := by have := hgn.out; rw [hrow2] at this; exact this
                    replace hlp : Hid (loopP ⟨(sn : Int), init, nodes⟩ (257 - i) (i + 1) lj (out ++ [⟨xn, xb, I, put⟩]) = r) := by have := hlp.out; rw [hrow2] at this; exact this
                    have hlt2 : i < lj.length := (List.getElem?_eq_some_iff.1 hlj.out).1
                    have x2 : wr.cell? ⟨w1.heap.size, 2, none⟩ = some (.slice ao out.length co) := rin.box.cell 2
                    have k0 : wr.cell? ⟨wo.heap.size + 1, 0, none⟩ = some (.int .u64 xn) := rin.n11.cell 0
                    have k1 : wr.cell? ⟨wo.heap.size + 1, 1, none⟩ = some (.int .u64 xb) := rin.n11.cell 1
                    have k2 : wr.cell? ⟨wo.heap.size + 1, 2, none⟩ = some (.int .u64 I) := rin.n11.cell 2
                    have k3 : wr.cell? ⟨wo.heap.size + 1, 3, none⟩ = some (.slice ap put.length cp) := rin.n11.cell 3
                    have OW := Lib.hid (OwnR.alloc rin.own (.cells #[.int .u64 xn, .int .u64 xb, .int .u64 I, .slice ap put.length cp] TN))
                    have NC := Lib.hid (new_cells wr #[.int .u64 xn, .int .u64 xb, .int .u64 I, .slice ap put.length cp] TN rfl)
                    have OC : Hid (∀ u ∈ [Value.int .u64 xn, .int .u64 xb, .int .u64 I, .slice ap put.length cp], u.oneCell' = true) := fun u hu => by simp at hu; rcases hu with rfl | rfl | rfl | rfl <;> rfl
                    have hA3 := Lib.hid (balloc (Below.refl wr.heap.size wr) (.cells #[.int .u64 xn, .int .u64 xb, .int .u64 I, .slice ap put.length cp] TN))
                    have rX := Lib.hid (rin.box.alloc (.cells #[.int .u64 xn, .int .u64 xb, .int .u64 I, .slice ap put.length cp] TN))
                    have hxl := rin.box.lt
                    have n5 : Hid (out.length + 1 ≤ maxLen) := by show _ ≤ _; unfold maxLen; have h1 := hol.out; have h2 := hi6.out; omega
                    have y5 : Hid ((out.length + 1) * 48 ≤ 140737488355328) := by show _ ≤ _; have h1 := hol.out; have h2 := hi6.out; omega
                    have x5' : Hid (w1.heap.size ≤ (wr.alloc (.cells #[.int .u64 xn, .int .u64 xb, .int .u64 I, .slice ap put.length cp] TN)).heap.size) := by show _ ≤ _; simp; omega
                    replace rin := Lib.hid rin
                    replace t1 := Lib.hid t1
                    replace t2 := Lib.hid t2
                    replace hbi := Lib.hid hbi
                    clear hrow2 hrow
                    go_wp2_with (at_builtin; refine wp_appR rfl _ _ 23 TN (.agg #[.int .u64 0, .int .u64 0, .int .u64 0, .slice none 0 0]) 4 48 rfl Try.underlying23 infoN rfl (by decide) w1.heap.size ao out.length co cells rfl OW.out wr.heap.size 1 [.int .u64 xn, .int .u64 xb, .int .u64 I, .slice ap put.length cp] rfl rfl NC.out OC.out n5.out y5.out x5'.out ?_)
                    intro ao3 co3 w3 ho3 hg3 hat3
                    have rX3 := rX.out.grow hg3 (fun e => (rin.out.ownC _ e).1.1 rfl)
                    have x3 : w3.cell? ⟨w1.heap.size, 2, none⟩ = some (.slice ao out.length co) := rX3.cell 2
                    have f3 := rX3.free 2
                    have STn := Lib.hid (rin.out.done hA3.out ho3 hg3 (hat3.imp (fun h => h) (fun h => ⟨_, by simp, h⟩)))
                    have hob : ∀ j, OBlk ao out.length co = some j → w1.heap.size ≤ j := fun j hj => (OwnR.lt rin.out.own hj).1
                    have q1 := Lib.hid (((t1.out.alloc (.cells #[.int .u64 xn, .int .u64 xb, .int .u64 I, .slice ap put.length cp] TN)).grow hg3 (fun e => by have := hob _ e; omega)).kset (n := w1.heap.size) (by omega) 2 (.slice ao3 (out.length + 1) co3))
                    have q2 := Lib.hid (((t2.out.alloc (.cells #[.int .u64 xn, .int .u64 xb, .int .u64 I, .slice ap put.length cp] TN)).grow hg3 (fun e => by have := hob _ e; omega)).kset (n := w1.heap.size) (by omega) 2 (.slice ao3 (out.length + 1) co3))
                    have hbn := Lib.hid (bsetN (n := w1.heap.size) (j := 2) (v := .slice ao3 (out.length + 1) co3) (bgrown (balloc hbi.out (.cells #[.int .u64 xn, .int .u64 xb, .int .u64 I, .slice ap put.length cp] TN)) hg3 (fun j hj => by have := hob j hj; omega)) (by omega))
                    have hle : Hid ((out ++ [(⟨xn, xb, I, put⟩ : AN)]).length = out.length + 1) := by show _ = _; simp
                    replace h256 := Lib.hid h256.out
                    clear hob rX3 ho3 hg3 hat3 rin t1 t2 hbi OW NC OC hA3 rX x2 k0 k1 k2 k3 z3 n5 y5 x5'
                    go_wp2
                    go_roundw
                    case rel => exact ⟨i + 1, lj, pj, pjc, ao3, co3, out ++ [⟨xn, xb, I, put⟩], _, by have := h256.out; omega, by go_num, rfl, by omega, STn.out, q1.out, q2.out, hbn.out, hgn, by show _ = _; rw [show 258 - (i + 1) = 257 - i by omega]; exact hlp.out, by rw [hle.out, hol.out]⟩
                    case measure => simp [intOf]; omega

        · obtain rfl : i = l.length := by omega
          have hr2 : Hid (res = ((0 : Int), (⟨1, ini, out⟩ : AU))) := by
            have h1 := hlp.out
            rw [if_neg (by omega), if_neg hlt] at h1
            have h2 := HR2.out
            rw [← h1] at h2
            exact h2
          obtain rfl := hr2.out
          clear hr2 hlp HR2
          have e0 : wr.cell? ⟨w.heap.size + 1, 0, none⟩ = some (.int .i64 0) := t2.cell 0
          have e1 : wr.cell? ⟨w.heap.size + 1, 1, none⟩ = some (.slice none 0 0) := t2.cell 1
          have e2 : wr.cell? ⟨w.heap.size + 1, 2, none⟩ = some (.slice none 0 0) := t2.cell 2
          have f0 := t2.free 0
          have f1 := t2.free 1
          have f2 := t2.free 2
          have x0 : wr.cell? ⟨w1.heap.size, 0, none⟩ = some (.int .i64 1) := st.box.cell 0
          have x1 : wr.cell? ⟨w1.heap.size, 1, none⟩ = some (.slice a0 ini.length c0) := st.box.cell 1
          have x2 : wr.cell? ⟨w1.heap.size, 2, none⟩ = some (.slice ao out.length co) := st.box.cell 2
          have hnodes := Lib.hid (st.cs.nodes st.own)
          go_wp2
          refine bodyPost_ret (v := .tuple #[.agg #[.int .i64 1, .slice a0 ini.length c0, .slice ao out.length co], .int .i64 0]) (by simp [results, Try.results11, go_sem, e0, e1, e2]) rfl ⟨a0, c0, ao, co, rfl, ?_, ?_, ?_⟩
          · exact (NumsAt.of_owns st.fst).keep (fun ad had _ => set3_other (st.iniC ad.block (by rw [had]; rfl)).1.2 _ _ _)
          · exact CellsOf.nodes (C := fun _ => True) (st.cs.keep (fun j hj => set3_other hj.1.2 _ _ _) (fun _ _ => trivial)) (OwnR.keeps (S := fun j => j = w.heap.size + 1) st.own ⟨rfl, rfl, rfl, by simp [World.setCell], fun j _ hj => set3_other hj _ _ _⟩ (fun j hj => (st.ownC j hj).1.2))
          · exact bsetN (bsetN (bsetN hb (by omega)) (by omega)) (by omega)
end Go.Proofs.Ytefplklkhcpchaa
