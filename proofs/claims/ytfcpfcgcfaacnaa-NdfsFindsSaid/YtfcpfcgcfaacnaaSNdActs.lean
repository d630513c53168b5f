/- The acts along pairs. Conditions: the product in memory, small; the pairs in memory, few. -/
import Derived.Test.YtfcpfcgcfaacnaaSNdActsP
namespace Go.Proofs.Ytfcpfcgcfaacnaa
open Go.RowKit
def actE (EP : PP → PP → Option PR) (x y : PP) : Option Int := (EP x y).map (·.2)
def ndAct (G : GR) (sets : List (List Bool)) (A : AU) (x y : PP) : Option Int := (edgeP G sets A x y).map (·.2)
theorem take_two {l : List PP} {k : Nat} (hk : k + 1 < l.length) : l.take (k + 2) = l.take k ++ [l[k], l[k + 1]] := by
 rw [List.take_succ_eq_append_getElem hk, List.take_succ_eq_append_getElem (Nat.lt_of_succ_lt hk), List.append_assoc]
 rfl
theorem take_one {l : List PP} {k : Nat} (hk : k < l.length) : l.take (k + 1) = l.take k ++ [l[k]] := List.take_succ_eq_append_getElem hk
def ActsR (w w' : World) (n : Nat) (e : Ending) : Option (List Int) → Prop
 | none => e = .returned (.tuple #[.slice none 0 0, .bool false])
 | some xs => ∃ a c, e = .returned (.tuple #[.slice a n c, .bool true]) ∧ xs.length = n ∧ OwnN .i64 w' w.heap.size 3 a n c xs
set_option maxHeartbeats 4000000 in
theorem acts_e (w : World) (pv : Value) (EP : PP → PP → Option PR) (EG : Hid (∀ v, Below w.heap.size w v → ∀ x y : PP, Calls Try.prog 74 #[pv, .agg #[.int .i64 x.node, .int .i64 x.state, .int .i64 x.turn], .agg #[.int .i64 y.node, .int .i64 y.state, .int .i64 y.turn]] v fun e w' => e = .returned (.tuple #[edv (EP x y), .bool (EP x y).isSome]) ∧ Below v.heap.size v w')) (sa : Option Addr) (sc : Nat) (l : List PP) (z : PP) (h : PpsAt w sa l) (hl : l.length ≤ 1000000) :
  Calls Try.prog 46 #[pv, .slice sa l.length sc, .agg #[.int .i64 z.node, .int .i64 z.state, .int .i64 z.turn]] w fun e w' => Below w.heap.size w w' ∧ ActsR w w' l.length e (chain (actE EP) (l ++ [z])) := by
 obtain ⟨res, hres⟩ : ∃ res, res = chain (actE EP) (l ++ [z]) := ⟨_, rfl⟩
 rw [← hres]
 obtain ⟨n, hn⟩ : ∃ n, n = l.length := ⟨_, rfl⟩
 obtain ⟨l2, hl2⟩ : ∃ l2, l2 = l ++ [z] := ⟨_, rfl⟩
 have hl2n : l2.length = n + 1 := by rw [hl2, hn]; simp
 rw [← hn] at hl ⊢
 rw [← hl2] at hres
 obtain ⟨w1, hw1⟩ : ∃ w1, w1 = w.alloc (.cells #[.int .i64 z.node, .int .i64 z.state, .int .i64 z.turn] TPP) := ⟨_, rfl⟩
 have b1 : Below w.heap.size w w1 := by rw [hw1]; exact balloc (Below.refl _ _) _
 have z1 : w.heap.size < w1.heap.size := by rw [hw1]; simp
 have r1 : RowAt w1 w.heap.size TPP [.int .i64 z.node, .int .i64 z.state, .int .i64 z.turn] := by rw [hw1]; exact RowAt.new #[.int .i64 z.node, .int .i64 z.state, .int .i64 z.turn] rfl
 replace h := Lib.hid (h.below b1)
 replace hn := Lib.hid hn
 replace hl2 := Lib.hid hl2
 replace hl2n := Lib.hid hl2n
 replace hres := Lib.hid hres
 replace b1 := Lib.hid b1
 replace r1 := Lib.hid r1
 have st0 : Hid (chain (actE EP) (l2.take (0 + 1)) = some []) := by
  show _ = _
  have h1 := hl2n.out
  match l2, h1 with
  | x :: _, _ => rfl
 go_enter Try.func46, Try.ntmps46
 go_wp2
 rw [← hw1]
 clear hw1
 go_loopw [6, 7, 8, 16] (fun s6 s7 s8 kv wr => ∃ (k : Nat) (a : Option Addr) (c : Nat) (xs : List Int), k ≤ n ∧ kv = .int .i64 (k : Int) ∧ s6 = .slice none 0 0 ∧ s7 = .bool false ∧ s8 = .slice a k c ∧ Hid (xs.length = k) ∧ Hid (chain (actE EP) (l2.take (k + 1)) = some xs) ∧ Hid (OwnN .i64 wr w1.heap.size 3 a k c xs) ∧ Hid (Below w1.heap.size w1 wr)) (fun _ _ _ kv _ => n - (intOf kv).toNat)
 case atStart => exact ⟨0, none, 0, [], Nat.zero_le _, rfl, rfl, rfl, rfl, rfl, st0, OwnN.nil _ _ _ _, Below.refl _ _⟩
 case round =>
  obtain ⟨k, a, c, xs, hk, rfl, rfl, rfl, rfl, hxl, hch, ow, lo⟩ := hrel
  clear st0
  by_cases hkn : k < n
  ·have hkN : (k : Int) < (n : Int) := by omega
   have hkl : k < l.length := by have := hn.out; omega
   obtain ⟨b, off, rfl, hbl, y0, y1, y2⟩ := (h.out.below lo.out).at k hkl
   obtain ⟨x, hx⟩ : ∃ x, x = l[k] := ⟨_, rfl⟩
   rw [← hx] at y0 y1 y2
   have rz := r1.out.below lo.out
   have e0 : wr.cell? ⟨w.heap.size, 0, none⟩ = some (.int .i64 z.node) := rz.cell 0
   have e1 : wr.cell? ⟨w.heap.size, 1, none⟩ = some (.int .i64 z.state) := rz.cell 1
   have e2 : wr.cell? ⟨w.heap.size, 2, none⟩ = some (.int .i64 z.turn) := rz.cell 2
   have hzl : w.heap.size < wr.heap.size := by have := lo.out.size; omega
   have hk2 : k + 1 < l2.length := by have := hl2n.out; omega
   have hx2 : l2[k] = x := by rw [hx]; simp only [hl2.out]; rw [List.getElem_append_left hkl]
   have hch2 : Hid (chain (actE EP) (l2.take k ++ [x]) = some xs) := by
    show _ = _
    rw [← hx2, ← take_one (by omega)]
    exact hch.out
   by_cases hk1 : k + 1 < n
   ·have hkl1 : k + 1 < l.length := by have := hn.out; omega
    have hk1N : (k : Int) + 1 < (n : Int) := by omega
    obtain ⟨b', off', hbo, _, v0, v1, v2⟩ := (h.out.below lo.out).at (k + 1) hkl1
    obtain ⟨rfl, rfl⟩ : b' = b ∧ off' = off := by cases hbo; exact ⟨rfl, rfl⟩
    obtain ⟨y, hy⟩ : ∃ y, y = l[k + 1] := ⟨_, rfl⟩
    rw [← hy] at v0 v1 v2
    have htk : Hid (l2.take (k + 2) = l2.take k ++ [x, y]) := by
     show _ = _
     rw [take_two hk2, hx2]
     have : l2[k + 1] = y := by rw [hy]; simp only [hl2.out]; rw [List.getElem_append_left hkl1]
     rw [this]
    clear hx hy hx2 hbo
    obtain ⟨w2, hw2⟩ : ∃ w2, w2 = (wr.alloc (.cells #[.int .i64 x.node, .int .i64 x.state, .int .i64 x.turn] TPP)).alloc (.cells #[.int .i64 y.node, .int .i64 y.state, .int .i64 y.turn] TPP) := ⟨_, rfl⟩
    have hlo2 : Below w1.heap.size w1 w2 := by
     rw [hw2]
     exact balloc (balloc lo.out _) _
    have hb2 : Below w.heap.size w w2 := btrans b1.out hlo2
    have ow2 : OwnN .i64 w2 w1.heap.size 3 a k c xs := by
     rw [hw2]
     exact (ow.out.alloc _).alloc _
    replace hb2 := Lib.hid hb2
    replace hlo2 := Lib.hid hlo2
    replace ow2 := Lib.hid ow2
    go_wp2_with fail
    rw [← hw2]
    clear hw2
    cases hed : EP x y with
    | none =>
     have hr : Hid (res = none) := by
      show _ = _
      rw [hres.out, ← List.take_append_drop (k + 2) l2]
      refine chain_none _ _ _ ?_
      rw [htk.out, chain_snoc, hch2.out]
      simp only [actE, hed, Option.map_none]
     have EX := EG.out w2 hb2.out x y
     rw [hed] at EX
     simp only [edv, Option.isSome_none] at EX
     replace EX := Lib.hid EX
     clear hed ow ow2
     refine EX.out.mono ?_
     rintro e w3 ⟨rfl, hb3⟩
     have hbe := Lib.hid (btrans hb2.out (btrans hb3 (balloc (Below.refl _ _) (.cells #[.int .i64 0, .int .i64 0] TE))))
     clear EX hb3
     simp only [Bool.not_false]
     go_wp2
     refine bodyPost_ret (v := .tuple #[.slice none 0 0, .bool false]) (by simp [results, Try.results46, go_sem]) rfl ?_
     rw [hr.out]
     exact ⟨hbe.out, rfl⟩
    | some ed =>
     have hc2 : Hid (chain (actE EP) (l2.take (k + 1 + 1)) = some (xs ++ [ed.2])) := by
      show _ = _
      rw [htk.out, chain_snoc, hch2.out]
      simp only [actE, hed, Option.map_some]
     have EX := EG.out w2 hb2.out x y
     rw [hed] at EX
     simp only [edv, Option.isSome_some] at EX
     replace EX := Lib.hid EX
     clear hed ow
     refine EX.out.mono ?_
     rintro e w3 ⟨rfl, hb3⟩
     obtain ⟨w4, hw4⟩ : ∃ w4, w4 = w3.alloc (.cells #[.int .i64 ed.1, .int .i64 ed.2] TE) := ⟨_, rfl⟩
     have z4 : w4.heap.size = w3.heap.size + 1 := by rw [hw4]; simp
     have OW : Hid (OwnN .i64 (w4.alloc (.cells #[.int .i64 ed.2] 3)) w1.heap.size 3 a k c xs) := by
      show OwnN _ _ _ _ _ _ _ _
      rw [hw4]
      exact ((ow2.out.keeps (S := fun _ => False) (Keeps.of_below hb3) (fun _ _ h => h)).alloc _).alloc _
     have NC : Hid ((w4.alloc (.cells #[.int .i64 ed.2] 3)).cell? ⟨w3.heap.size + 1, 0, none⟩ = some (.int .i64 ed.2)) := by
      show _ = _
      rw [← z4]
      exact World.cell?_alloc_at _ _ _ _ rfl
     have lo2 : Hid (Below w1.heap.size w1 (w4.alloc (.cells #[.int .i64 ed.2] 3))) := by
      show Below _ _ _
      rw [hw4]
      exact balloc (balloc (btrans hlo2.out hb3) _) _
     have y5 : Hid ((k + 1) * 8 ≤ 140737488355328) := by show _ ≤ _; omega
     have x5 : Hid (w1.heap.size ≤ (w4.alloc (.cells #[.int .i64 ed.2] 3)).heap.size) := by show _ ≤ _; exact lo2.out.size
     subst hw4
     clear EX hb3 z4
     simp only [Bool.not_true]
     go_wp2_with (at_builtin; refine wp_app1 rfl _ _ 22 3 .i64 8 rfl Try.underlying22 infoI w1.heap.size a k c _ rfl OW.out _ 1 ed.2 rfl NC.out y5.out (by decide) x5.out ?_)
     intro a3 c3 w5 ho3 hg3
     have lo3 := Lib.hid (bgrown lo2.out hg3 (fun j hj => ow2.out.block j hj))
     have ow3 : Hid (OwnN .i64 w5 w1.heap.size 3 a3 (k + 1) c3 (xs ++ [ed.2])) := ho3
     have hxl2 : Hid ((xs ++ [ed.2]).length = k + 1) := by show _ = _; rw [List.length_append, hxl.out]; rfl
     clear OW NC y5 x5 ho3 hg3 lo lo2 ow2
     go_wp2
     go_roundw
     case rel => exact ⟨k + 1, a3, c3, xs ++ [ed.2], by omega, by go_num, rfl, rfl, rfl, hxl2, hc2, ow3, lo3⟩
     case measure => simp [intOf]; omega
   ·have hk1n : k + 1 = n := by omega
    have hk1N : ¬ (k : Int) + 1 < (n : Int) := by omega
    obtain ⟨y, hy⟩ : ∃ y, y = z := ⟨_, rfl⟩
    have htk : Hid (l2.take (k + 2) = l2.take k ++ [x, y]) := by
     show _ = _
     rw [take_two hk2, hx2]
     have : l2[k + 1] = y := by
      rw [hy]
      simp only [hl2.out]
      rw [List.getElem_append_right (by have := hn.out; omega)]
      simp
     rw [this]
    clear hx hx2 hk1n
    subst hy
    obtain ⟨w2, hw2⟩ : ∃ w2, w2 = (wr.alloc (.cells #[.int .i64 x.node, .int .i64 x.state, .int .i64 x.turn] TPP)).alloc (.cells #[.int .i64 y.node, .int .i64 y.state, .int .i64 y.turn] TPP) := ⟨_, rfl⟩
    have hlo2 : Below w1.heap.size w1 w2 := by
     rw [hw2]
     exact balloc (balloc lo.out _) _
    have hb2 : Below w.heap.size w w2 := btrans b1.out hlo2
    have ow2 : OwnN .i64 w2 w1.heap.size 3 a k c xs := by
     rw [hw2]
     exact (ow.out.alloc _).alloc _
    replace hb2 := Lib.hid hb2
    replace hlo2 := Lib.hid hlo2
    replace ow2 := Lib.hid ow2
    go_wp2_with fail
    rw [← hw2]
    clear hw2
    cases hed : EP x y with
    | none =>
     have hr : Hid (res = none) := by
      show _ = _
      rw [hres.out, ← List.take_append_drop (k + 2) l2]
      refine chain_none _ _ _ ?_
      rw [htk.out, chain_snoc, hch2.out]
      simp only [actE, hed, Option.map_none]
     have EX := EG.out w2 hb2.out x y
     rw [hed] at EX
     simp only [edv, Option.isSome_none] at EX
     replace EX := Lib.hid EX
     clear hed ow ow2
     refine EX.out.mono ?_
     rintro e w3 ⟨rfl, hb3⟩
     have hbe := Lib.hid (btrans hb2.out (btrans hb3 (balloc (Below.refl _ _) (.cells #[.int .i64 0, .int .i64 0] TE))))
     clear EX hb3
     simp only [Bool.not_false]
     go_wp2
     refine bodyPost_ret (v := .tuple #[.slice none 0 0, .bool false]) (by simp [results, Try.results46, go_sem]) rfl ?_
     rw [hr.out]
     exact ⟨hbe.out, rfl⟩
    | some ed =>
     have hc2 : Hid (chain (actE EP) (l2.take (k + 1 + 1)) = some (xs ++ [ed.2])) := by
      show _ = _
      rw [htk.out, chain_snoc, hch2.out]
      simp only [actE, hed, Option.map_some]
     have EX := EG.out w2 hb2.out x y
     rw [hed] at EX
     simp only [edv, Option.isSome_some] at EX
     replace EX := Lib.hid EX
     clear hed ow
     refine EX.out.mono ?_
     rintro e w3 ⟨rfl, hb3⟩
     obtain ⟨w4, hw4⟩ : ∃ w4, w4 = w3.alloc (.cells #[.int .i64 ed.1, .int .i64 ed.2] TE) := ⟨_, rfl⟩
     have z4 : w4.heap.size = w3.heap.size + 1 := by rw [hw4]; simp
     have OW : Hid (OwnN .i64 (w4.alloc (.cells #[.int .i64 ed.2] 3)) w1.heap.size 3 a k c xs) := by
      show OwnN _ _ _ _ _ _ _ _
      rw [hw4]
      exact ((ow2.out.keeps (S := fun _ => False) (Keeps.of_below hb3) (fun _ _ h => h)).alloc _).alloc _
     have NC : Hid ((w4.alloc (.cells #[.int .i64 ed.2] 3)).cell? ⟨w3.heap.size + 1, 0, none⟩ = some (.int .i64 ed.2)) := by
      show _ = _
      rw [← z4]
      exact World.cell?_alloc_at _ _ _ _ rfl
     have lo2 : Hid (Below w1.heap.size w1 (w4.alloc (.cells #[.int .i64 ed.2] 3))) := by
      show Below _ _ _
      rw [hw4]
      exact balloc (balloc (btrans hlo2.out hb3) _) _
     have y5 : Hid ((k + 1) * 8 ≤ 140737488355328) := by show _ ≤ _; omega
     have x5 : Hid (w1.heap.size ≤ (w4.alloc (.cells #[.int .i64 ed.2] 3)).heap.size) := by show _ ≤ _; exact lo2.out.size
     subst hw4
     clear EX hb3 z4
     simp only [Bool.not_true]
     go_wp2_with (at_builtin; refine wp_app1 rfl _ _ 22 3 .i64 8 rfl Try.underlying22 infoI w1.heap.size a k c _ rfl OW.out _ 1 ed.2 rfl NC.out y5.out (by decide) x5.out ?_)
     intro a3 c3 w5 ho3 hg3
     have lo3 := Lib.hid (bgrown lo2.out hg3 (fun j hj => ow2.out.block j hj))
     have ow3 : Hid (OwnN .i64 w5 w1.heap.size 3 a3 (k + 1) c3 (xs ++ [ed.2])) := ho3
     have hxl2 : Hid ((xs ++ [ed.2]).length = k + 1) := by show _ = _; rw [List.length_append, hxl.out]; rfl
     clear OW NC y5 x5 ho3 hg3 lo lo2 ow2
     go_wp2
     go_roundw
     case rel => exact ⟨k + 1, a3, c3, xs ++ [ed.2], by omega, by go_num, rfl, rfl, rfl, hxl2, hc2, ow3, lo3⟩
     case measure => simp [intOf]; omega
  ·obtain rfl : k = n := by omega
   have hr : Hid (res = some xs) := by
    show _ = _
    rw [hres.out, ← hch.out, List.take_of_length_le (by rw [hl2n.out]; exact Nat.le_refl _)]
   go_wp2
   refine bodyPost_ret (v := .tuple #[.slice a k c, .bool true]) (by simp [results, Try.results46, go_sem]) rfl ?_
   rw [hr.out]
   exact ⟨btrans b1.out lo.out, a, c, rfl, hxl.out, ow.out.base (by omega)⟩
end Go.Proofs.Ytfcpfcgcfaacnaa
