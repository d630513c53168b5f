/- The document's nodes and lasso; pairs told anew. Conditions: the pairs in memory, few. -/
import Derived.Test.YtfcpfcgcfaacnaaSNdNodes
import Derived.BigRegion
import Derived.Deep.AppendSrc
namespace Go.Proofs.Ytfcpfcgcfaacnaa
open Go.RowKit
abbrev TRF : Nat := 54
set_option maxHeartbeats 2000000 in
theorem rnodes_any (w : World) (sa : Option Addr) (sc : Nat) (l : List PP) (h : PpsAt w sa l) (hl : l.length ≤ 1000000) :
  Calls Try.prog 45 #[.slice sa l.length sc] w fun e w' => ∃ a c, e = .returned (.slice a l.length c) ∧ OwnN .i64 w' w.heap.size 3 a l.length c (l.map PP.node) ∧ Below w.heap.size w w' := by
 obtain ⟨n, hn⟩ : ∃ n, n = l.length := ⟨_, rfl⟩
 rw [← hn] at hl ⊢
 replace h := Lib.hid h
 replace hn := Lib.hid hn
 go_enter Try.func45, Try.ntmps45
 go_wp2
 go_loopw [3, 4] (fun s kv wr => ∃ (k : Nat) (a : Option Addr) (c : Nat), k ≤ n ∧ kv = .int .i64 (k : Int) ∧ s = .slice a k c ∧ Hid (OwnN .i64 wr w.heap.size 3 a k c ((l.take k).map PP.node)) ∧ Hid (Below w.heap.size w wr)) (fun _ kv _ => n - (intOf kv).toNat)
 case atStart => exact ⟨0, none, 0, Nat.zero_le _, rfl, rfl, OwnN.nil _ _ _ _, Below.refl _ _⟩
 case round =>
  obtain ⟨k, a, c, hk, rfl, rfl, ow, lo⟩ := hrel
  by_cases hkn : k < n
  ·have hkN : (k : Int) < (n : Int) := by omega
   have hkl : k < l.length := by have := hn.out; omega
   obtain ⟨b, off, rfl, hbl, y0, y1, y2⟩ := (h.out.below lo.out).at k hkl
   obtain ⟨y, hy⟩ : ∃ y, y = l[k] := ⟨_, rfl⟩
   rw [← hy] at y0 y1 y2
   have hsn : Hid ((l.take (k + 1)).map PP.node = (l.take k).map PP.node ++ [y.node]) := by
    show _ = _
    rw [List.take_succ_eq_append_getElem hkl, List.map_append, hy]
    rfl
   clear hy hkl
   have OW : Hid (OwnN .i64 (wr.alloc (.cells #[.int .i64 y.node] 3)) w.heap.size 3 a k c ((l.take k).map PP.node)) := ow.out.alloc _
   have NC : Hid ((wr.alloc (.cells #[.int .i64 y.node] 3)).cell? ⟨wr.heap.size, 0, none⟩ = some (.int .i64 y.node)) := World.cell?_alloc_at _ _ _ _ rfl
   have lo2 : Hid (Below w.heap.size w (wr.alloc (.cells #[.int .i64 y.node] 3))) := balloc lo.out _
   have y5 : Hid ((k + 1) * 8 ≤ 140737488355328) := by show _ ≤ _; omega
   have x5 : Hid (w.heap.size ≤ (wr.alloc (.cells #[.int .i64 y.node] 3)).heap.size) := by show _ ≤ _; exact lo2.out.size
   go_wp2_with (at_builtin; refine wp_app1 rfl _ _ 22 3 .i64 8 rfl Try.underlying22 infoI w.heap.size a k c _ rfl OW.out _ 1 y.node rfl NC.out y5.out (by decide) x5.out ?_)
   intro a3 c3 w3 ho3 hg3
   have lo3 := Lib.hid (bgrown lo2.out hg3 (fun j hj => ow.out.block j hj))
   have ow3 : Hid (OwnN .i64 w3 w.heap.size 3 a3 (k + 1) c3 ((l.take (k + 1)).map PP.node)) := by
    show OwnN _ _ _ _ _ _ _ _
    rw [hsn.out, List.map_take]
    exact ho3
   clear OW NC y5 x5 ho3 hg3 ow lo lo2 y0 y1 y2
   go_wp2
   go_roundw
   case rel => exact ⟨k + 1, a3, c3, by omega, by go_num, rfl, ow3, lo3⟩
   case measure => simp [intOf]; omega
  ·obtain rfl : k = n := by omega
   have ow' := ow.out
   rw [List.take_of_length_le (by rw [hn.out]; exact Nat.le_refl _)] at ow'
   replace ow' := Lib.hid ow'
   clear ow
   go_wp2
   go_ret
   exact ⟨a, c, rfl, ow'.out, lo.out⟩
set_option maxHeartbeats 4000000 in
theorem rlassoV_any (w : World) (kind why nodes edges depth : Int) (sa la : Option Addr) (sc lc : Nat) (stem loop : List PP) (hps : PpsAt w sa stem) (hpl : PpsAt w la loop) (hs : stem.length ≤ 1000000) (hl : loop.length ≤ 1000000) :
  Calls Try.prog 17 #[.agg #[.int .i64 kind, .int .i64 why, .int .i64 nodes, .int .i64 edges, .int .i64 depth, .slice sa stem.length sc, .slice la loop.length lc]] w fun e w' => ∃ v', e = .returned v' ∧ Below w.heap.size w w' ∧ LassoNew w.heap.size w' v' (stem.map PP.node) (loop.map PP.node) := by
 obtain ⟨wA, hwA⟩ : ∃ wA, wA = w.alloc (.cells #[.int .i64 kind, .int .i64 why, .int .i64 nodes, .int .i64 edges, .int .i64 depth, .slice sa stem.length sc, .slice la loop.length lc] TRF) := ⟨_, rfl⟩
 obtain ⟨wB, hwB⟩ : ∃ wB, wB = wA.alloc (.cells #[.slice none 0 0, .slice none 0 0] 57) := ⟨_, rfl⟩
 have zA : wA.heap.size = w.heap.size + 1 := by rw [hwA]; simp
 have bA : Below w.heap.size w wB := by rw [hwB, hwA]; exact balloc (balloc (Below.refl _ _) _) _
 have rA : RowAt wB w.heap.size TRF [.int .i64 kind, .int .i64 why, .int .i64 nodes, .int .i64 edges, .int .i64 depth, .slice sa stem.length sc, .slice la loop.length lc] := by
  rw [hwB]
  refine RowAt.below (w := wA) ?_ (balloc (Below.refl _ _) _)
  rw [hwA]
  exact RowAt.new #[.int .i64 kind, .int .i64 why, .int .i64 nodes, .int .i64 edges, .int .i64 depth, .slice sa stem.length sc, .slice la loop.length lc] rfl
 have rB : RowAt wB (w.heap.size + 1) 57 [.slice none 0 0, .slice none 0 0] := by
  rw [hwB, ← zA]
  exact RowAt.new #[.slice none 0 0, .slice none 0 0] rfl
 have NS := Lib.hid (fun v (hb : Below wB.heap.size wB v) => rnodes_any v sa sc stem (hps.below (btrans bA hb)) hs)
 have NL := Lib.hid (fun v (hb : Below wB.heap.size wB v) => rnodes_any v la lc loop (hpl.below (btrans bA hb)) hl)
 have SB : Hid (∀ v, Below wB.heap.size wB v → v.cell? ⟨w.heap.size, 5, none⟩ = some (.slice sa stem.length sc) ∧ v.cell? ⟨w.heap.size, 6, none⟩ = some (.slice la loop.length lc)) := fun v hb => ⟨(rA.below hb).cell 5, (rA.below hb).cell 6⟩
 -- both have come
 have FIN : Hid (∀ v (a : Option Addr) (c : Nat) (a2 : Option Addr) (c2 : Nat), Below wB.heap.size wB v → OwnN .i64 v wB.heap.size 3 a stem.length c (stem.map PP.node) → OwnN .i64 v wB.heap.size 3 a2 loop.length c2 (loop.map PP.node) → v.cell? ⟨w.heap.size + 1, 0, none⟩ = some (.slice none 0 0) ∧ v.cell? ⟨w.heap.size + 1, 1, none⟩ = some (.slice none 0 0) ∧ v.frozen? ⟨w.heap.size + 1, 0, none⟩ = false ∧ v.frozen? ⟨w.heap.size + 1, 1, none⟩ = false ∧ w.heap.size + 1 < v.heap.size ∧ ∀ v', v' = (v.setCell ⟨w.heap.size + 1, 0, none⟩ (.slice a stem.length c)).setCell ⟨w.heap.size + 1, 1, none⟩ (.slice a2 loop.length c2) → v'.cell? ⟨w.heap.size + 1, 0, none⟩ = some (.slice a stem.length c) ∧ v'.cell? ⟨w.heap.size + 1, 1, none⟩ = some (.slice a2 loop.length c2) ∧ Below w.heap.size w v' ∧ NumsNew w.heap.size v' a (stem.map PP.node) ∧ NumsNew w.heap.size v' a2 (loop.map PP.node) ∧ v'.cell? ⟨w.heap.size, 5, none⟩ = some (.slice sa stem.length sc) ∧ v'.cell? ⟨w.heap.size, 6, none⟩ = some (.slice la loop.length lc)) := fun v a c a2 c2 hb o1 o2 => by
  have r := rB.below hb
  have zB : wB.heap.size = w.heap.size + 2 := by rw [hwB]; simp [zA]
  refine ⟨r.cell 0, r.cell 1, r.free 0, r.free 1, r.lt, fun v' hv => ?_⟩
  have r2 := (r.set 0 (.slice a stem.length c)).set 1 (.slice a2 loop.length c2)
  have k1 : Keeps v v' (fun j => j = w.heap.size + 1) := by
   rw [hv]
   exact (Keeps.set (S := fun j => j = w.heap.size + 1) v _ 0 (.slice a stem.length c) rfl).trans (Keeps.set (S := fun j => j = w.heap.size + 1) _ _ 1 (.slice a2 loop.length c2) rfl) (fun _ _ h => h)
  rw [← hv] at r2
  refine ⟨r2.cell 0, r2.cell 1, k1.below (btrans bA hb) (fun j e => by omega), ⟨NumsAt.of_owns (o1.keeps k1 (fun j hj e => ?_)), fun ad had => Nat.le_trans bA.size (own_new o1 ad had)⟩, ⟨NumsAt.of_owns (o2.keeps k1 (fun j hj e => ?_)), fun ad had => Nat.le_trans bA.size (own_new o2 ad had)⟩, ((rA.below hb).keeps k1 (by omega)).cell 5, ((rA.below hb).keeps k1 (by omega)).cell 6⟩
  ·have := (o1.lt2 hj).1; omega
  ·have := (o2.lt2 hj).1; omega
 have KN : Hid (∀ v v' (a : Option Addr) (n c : Nat) (xs : List Int), Below v.heap.size v v' → OwnN .i64 v wB.heap.size 3 a n c xs → OwnN .i64 v' wB.heap.size 3 a n c xs) := fun v v' a n c xs hb ho => ho.keeps (S := fun _ => False) (Keeps.of_below hb) (fun _ _ h => h)
 replace rA := Lib.hid rA
 replace rB := Lib.hid rB
 replace bA := Lib.hid bA
 go_enter Try.func17, Try.ntmps17
 go_wp2
 rw [← hwA, ← hwB]
 clear hwA hwB zA hps hpl
 obtain ⟨x5, x6⟩ := SB.out wB (Below.refl _ _)
 go_region_held3 (fun w' => w'.cell? ⟨w.heap.size, 5, none⟩ = some (.slice sa stem.length sc) ∧ w'.cell? ⟨w.heap.size, 6, none⟩ = some (.slice la loop.length lc)) (first | exact (FF _ rfl).2.2.2.2.2 | exact SB.out _ KB | exact SB.out _ KS | exact SB.out _ KL | exact SB.out _ (Below.refl _ _).drew) (first
  | (go_at_call 45; (with_reducible refine (NL.out _ KS).mono ?_); rintro e wL ⟨a2, c2, rfl, oL, bL⟩; have KB : Below wB.heap.size wB wL := btrans KS bL; have oS2 := KN.out _ _ _ _ _ _ bL oS; have oL2 := oL.base KS.size; obtain ⟨t0, t1, u0, u1, ul, FF⟩ := FIN.out _ a c a2 c2 KB oS2 oL2)
  | (go_at_call 45; (with_reducible refine (NS.out _ KL).mono ?_); rintro e wS ⟨a, c, rfl, oS, bS⟩; have KB : Below wB.heap.size wB wS := btrans KL bS; have oL2 := KN.out _ _ _ _ _ _ bS oL; have oS2 := oS.base KL.size; obtain ⟨t0, t1, u0, u1, ul, FF⟩ := FIN.out _ a c a2 c2 KB oS2 oL2)
  | (go_at_call 45; (with_reducible refine (NS.out _ (Below.refl _ _).drew).mono ?_); rintro e wS ⟨a, c, rfl, oS, bS⟩; have KS : Below wB.heap.size wB wS := ⟨bS.os, bS.tape, bS.output, bS.size, bS.block⟩; replace oS : OwnN .i64 wS wB.heap.size 3 a stem.length c (stem.map PP.node) := oS)
  | (go_at_call 45; (with_reducible refine (NL.out _ (Below.refl _ _).drew).mono ?_); rintro e wL ⟨a2, c2, rfl, oL, bL⟩; have KL : Below wB.heap.size wB wL := ⟨bL.os, bL.tape, bL.output, bL.size, bL.block⟩; replace oL : OwnN .i64 wL wB.heap.size 3 a2 loop.length c2 (loop.map PP.node) := oL))
 all_goals (
  obtain ⟨c0, c1, b9, m1, m2, _⟩ := FF _ rfl
  clear FF FIN KN NS NL SB t0 t1 u0 u1 oS oL oS2 oL2
  go_wp2
  refine bodyPost_ret (v := .agg #[.slice a stem.length c, .slice a2 loop.length c2]) (by simp [results, Try.results17, go_sem, c0, c1]) rfl ⟨_, rfl, b9, a, c, a2, c2, ?_, m1, m2⟩
  simp only [List.length_map])
end Go.Proofs.Ytfcpfcgcfaacnaa
