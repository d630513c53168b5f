/- The walk of layer octet's law on what is read. No conditions but the form's reach. -/
import Derived.Test.YtpnkfhfaoomdpaaOctetOwn
import Derived.Test.YtpnkfhfaoomdpaaOctetRef3
import Derived.BigRegion
import Derived.Deep.RegionWith
namespace Go.Proofs.Ytpnkfhfaoomdpaa
open Go.RowKit

theorem x_from (w : World) (a : Option Addr) (n cap : Nat) :
    Calls Try.prog 19 #[.slice a n cap] w fun r w' => r = .returned (.agg #[.slice a n cap, .int .i64 0, .int .i64 0]) ∧ Below w.heap.size w w' := by
  go_enter Try.func19, Try.ntmps19
  go_wp2
  exact bodyPost_ret (v := .agg #[.slice a n cap, .int .i64 0, .int .i64 0]) (by simp [results, Try.results19, go_sem]) rfl ⟨rfl, (Below.refl _ _).alloc (Nat.le_refl _) _⟩
/-- a reader stays where a cell of another block is written -/
theorem RD.other {w : World} {g : Nat} {a : Option Addr} {cap : Nat} {bs : List Int} {p : Nat} {e : Int} (h : RD w g a cap bs p e) {n j : Nat} {v : Value} (h1 : n ≠ g) (h2 : ∀ ad : Addr, a = some ad → 0 < bs.length → n ≠ ad.block) : RD (w.setCell ⟨n, j, none⟩ v) g a cap bs p e :=
  h.apart (row := some n) (grown_set (grown_drew w n 0) j v) (fun e => h1 (by cases e; rfl)) (fun ad had h0 e => h2 ad had h0 (by cases e; rfl))

set_option maxHeartbeats 8000000 in
theorem octetReads_walk (W : World) (v0 : Value) (bs : List Int) (h0 : rSl 1 1 (rInt .u8) W [v0] bs) (v1 : Value) (ks : List Int) (h1 : rSl 1 1 (rInt .u8) W [v1] ks) :
    Calls Try.prog 5 #[v0, v1] W fun e w' => e = .returned (.bool true) ∧ Below W.heap.size W w' := by
  obtain ⟨a0, k0, rfl, l0, lc, i0, r0⟩ := NumsAt.of_rSl h0
  obtain ⟨a1, k1, rfl, l1, lc1, i1, r1⟩ := NumsAt.of_rSl h1
  clear h0 h1
  by_cases g0 : 300 < bs.length
  · have g0' : (300 : Int) < (bs.length : Int) := by omega
    go_enter Try.func5, Try.ntmps5
    go_wp2_with (go_at_call 10; refine (works_true _).mono ?_; rintro e w' ⟨rfl, hb⟩)
    go_ret
    exact ⟨rfl, by assumption⟩
  have g0' : decide ((300 : Int) < (bs.length : Int)) = false := by simp; omega
  by_cases g1 : 40 < ks.length
  · have g1' : (40 : Int) < (ks.length : Int) := by omega
    go_enter Try.func5, Try.ntmps5
    go_wp2_with (go_at_call 10; refine (works_true _).mono ?_; rintro e w' ⟨rfl, hb⟩)
    go_ret
    exact ⟨rfl, by assumption⟩
  have g1' : decide ((40 : Int) < (ks.length : Int)) = false := by simp; omega
  have X4 := Lib.hid (fun x hx => range_u8 (r0.out x hx))
  have XN := Lib.hid (fun w' p e (hp : p ≤ bs.length) h => x_num w' a0 k0 bs p e h hp (by omega) X4.out)
  have XL := Lib.hid (fun w' p e (hp : p ≤ bs.length) h => x_list w' a0 k0 bs p e h hp (by omega) X4.out)
  have XT := Lib.hid (fun w' p e (hp : p ≤ bs.length) h => x_text w' a0 k0 bs p e h hp (by omega) lc X4.out)
  have DN := Lib.hid (fun w' g a c p e (h : RD w' g a c bs p e) => num_fn w' g a c bs p e h)
  have DL := Lib.hid (fun w' g a c p e (h : RD w' g a c bs p e) => rdlist_any w' g a c bs p e h)
  have DT := Lib.hid (fun w' g a c p e (h : RD w' g a c bs p e) => text_any w' g a c bs p e h)
  go_enter Try.func5, Try.ntmps5
  go_wp2_with fail
  refine (from_any W a0 bs.length k0 bs i0 rfl (by omega)).mono ?_
  rintro e w1 ⟨g, a, c, rfl, hg, h1, hne1, hR1, hb1, hc1⟩
  have R1 : RD w1 g a c bs 0 0 := ⟨hR1, h1, fun ad h => (hne1.out ad h).2, Nat.zero_le _, hc1, by omega, X4.out⟩
  have hgl := hR1.lt
  have hal : Hid (∀ ad : Addr, a = some ad → 0 < bs.length → ad.block < w1.heap.size) := fun ad had h0 => h1.lt h0 had
  clear hR1 h1 hne1 hc1
  go_wp2_with fail
  refine (x_from _ _ _ _).mono ?_
  rintro e w2 ⟨rfl, hb2⟩
  have R2 := R1.below hb2
  have hz2 := hb2.size
  have hb2W := btrans hb1 hb2
  have hzW := hb2W.size
  clear R1 hb1 hb2
  have hBg : w2.heap.size ≠ g := by omega
  have hBa : Hid (∀ ad : Addr, a = some ad → 0 < bs.length → w2.heap.size ≠ ad.block) := fun ad had h0 => by have := hal.out ad had h0; omega
  go_wp2
  go_loopw [7] (fun iv wr => ∃ (k p : Nat) (e : Int), k ≤ ks.length ∧ iv = .int .i64 k ∧ RD wr g a c bs p e ∧ RowAt wr w2.heap.size 35 [.slice a0 bs.length k0, .int .i64 p, .int .i64 e] ∧ Below W.heap.size W wr) (fun iv _ => ks.length - (intOf iv).toNat)
  case atStart => exact ⟨0, 0, 0, Nat.zero_le _, rfl, R2.below (balloc (Below.refl _ _) _), RowAt.new #[.slice a0 bs.length k0, .int .i64 0, .int .i64 0] rfl, balloc hb2W _⟩
  case round =>
    obtain ⟨k, p, e, hk, rfl, hR, hB, hb⟩ := hrel
    clear R2 hb2W
    by_cases hlt : k < ks.length
    · have hp := hR.hp
      have hBl := hB.lt
      have b0 : wr.cell? ⟨w2.heap.size, 0, none⟩ = some (.slice a0 bs.length k0) := hB.cell 0
      have b1 : wr.cell? ⟨w2.heap.size, 1, none⟩ = some (.int .i64 p) := hB.cell 1
      have b2 : wr.cell? ⟨w2.heap.size, 2, none⟩ = some (.int .i64 e) := hB.cell 2
      obtain ⟨bk, ok, x, rfl, cx, hx⟩ := (i1.below hb).at k hlt
      by_cases hx0 : x = 0
      · subst hx0
        have NX := XN.out wr p e hp (i0.below hb)
        have ND := fun w' h => DN.out w' g a c p e h
        generalize Octet.rNum bs p e = q at NX ND
        obtain ⟨p2, e2, v⟩ := q
        replace NX := Lib.hid NX
        replace ND := Lib.hid ND
        go_wp2_with fail
        refine NX.out.mono ?_
        rintro r w3 ⟨rfl, hb3⟩
        have hR3 := hR.below hb3
        have hB3 := hB.below hb3
        have hz3 := hb3.size
        have hb3W := btrans hb hb3
        clear b0 b1 b2 hR hB hb hb3 NX cx
        have ND2 := ND.out (w3.alloc (.cells #[.slice a0 bs.length k0, .int .i64 p2, .int .i64 e2] 35)) (hR3.below (balloc (Below.refl _ _) _))
        replace ND2 := Lib.hid ND2
        go_wp2_with fail
        refine ND2.out.mono ?_
        rintro r w4 ⟨hg4, rfl, hR4⟩
        have hvv : (v != v) = false := by simp
        have hB4 := (hB3.below (balloc (Below.refl _ _) (.cells #[.slice a0 bs.length k0, .int .i64 p2, .int .i64 e2] 35))).grow hg4 (fun e => hBg (by cases e; rfl))
        have hT4 := (RowAt.new (w := w3) (T := 35) #[.slice a0 bs.length k0, .int .i64 p2, .int .i64 e2] rfl).grow hg4 (fun e => by cases e; omega)
        have hb4 := bgrown (balloc hb3W (.cells #[.slice a0 bs.length k0, .int .i64 p2, .int .i64 e2] 35)) hg4 (fun j hj => by cases hj; exact hg)
        have t0 : w4.cell? ⟨w3.heap.size, 0, none⟩ = some (.slice a0 bs.length k0) := hT4.cell 0
        have t1 : w4.cell? ⟨w3.heap.size, 1, none⟩ = some (.int .i64 p2) := hT4.cell 1
        have t2 : w4.cell? ⟨w3.heap.size, 2, none⟩ = some (.int .i64 e2) := hT4.cell 2
        have b0 : w4.cell? ⟨w2.heap.size, 0, none⟩ = some (.slice a0 bs.length k0) := hB4.cell 0
        have b1 : w4.cell? ⟨w2.heap.size, 1, none⟩ = some (.int .i64 p) := hB4.cell 1
        have b2 : w4.cell? ⟨w2.heap.size, 2, none⟩ = some (.int .i64 e) := hB4.cell 2
        have f0 := hB4.free 0
        have f1 := hB4.free 1
        have f2 := hB4.free 2
        have hB5 := hB4.store3 (.slice a0 bs.length k0) (.int .i64 p2) (.int .i64 e2)
        have hR5 := ((hR4.other (j := 0) (v := .slice a0 bs.length k0) hBg hBa.out).other (j := 1) (v := .int .i64 p2) hBg hBa.out).other (j := 2) (v := .int .i64 e2) hBg hBa.out
        have hb5 := bset (n := w2.heap.size) (j := 2) (v := .int .i64 e2) (bset (n := w2.heap.size) (j := 1) (v := .int .i64 p2) (bset (n := w2.heap.size) (j := 0) (v := .slice a0 bs.length k0) hb4 (by omega)) (by omega)) (by omega)
        clear hg4 hR4 hT4 hR3 hB3 hb3W hB4 hb4 ND ND2
        go_wp2_with fail
        generalize ((w4.setCell ⟨w2.heap.size, 0, none⟩ (.slice a0 bs.length k0)).setCell ⟨w2.heap.size, 1, none⟩ (.int .i64 p2)).setCell ⟨w2.heap.size, 2, none⟩ (.int .i64 e2) = w5 at hB5 hR5 hb5 ⊢
        clear t0 t1 t2 b0 b1 b2 f0 f1 f2
        have d0 : w5.cell? ⟨w2.heap.size, 0, none⟩ = some (.slice a0 bs.length k0) := hB5.cell 0
        have d1 : w5.cell? ⟨w2.heap.size, 1, none⟩ = some (.int .i64 p2) := hB5.cell 1
        have d2 : w5.cell? ⟨w2.heap.size, 2, none⟩ = some (.int .i64 e2) := hB5.cell 2
        have hee : (e2 != e2) = false := by simp
        have hll : ((bs.length : Int) - (p2 : Int) != (bs.length : Int) - (p2 : Int)) = false := by simp
        have hp2 := hR5.hp
        go_region_with (first
          | (go_at_call 26; refine (err_any _ g _ _ _ _ _ (hR5.rdr.drewN _)).mono ?_; rintro r w6 ⟨rfl, rfl⟩)
          | (go_at_call 27; refine (Left_any _ g _ _ _ _ _ (hR5.drewN _)).mono ?_; rintro r w7 ⟨rfl, n7, rfl⟩)
          | (go_at_call 28; refine (x_left _ _ _ _ _ _ (by omega) (by omega)).mono ?_; rintro r w8 ⟨rfl, hb8⟩))
        all_goals (
          go_wp2
          go_roundw
          case rel => exact ⟨k + 1, p2, e2, by omega, by go_num, (hR5.drewN _).below hb8, RowAt.below (w := w5.drewN _) hB5 hb8, btrans (bdrewN hb5 _) hb8⟩
          case measure => simp [intOf]; omega)
      by_cases hx1 : x = 1
      · subst hx1
        have hx0' : ((1 : Int) == 0) = false := rfl
        have NX := XL.out wr p e hp (i0.below hb)
        have ND := fun w' h => DL.out w' g a c p e h
        generalize Octet.rList bs p e = q at NX ND
        obtain ⟨p2, e2, v⟩ := q
        replace NX := Lib.hid NX
        replace ND := Lib.hid ND
        go_wp2_with fail
        refine NX.out.mono ?_
        rintro r w3 ⟨al, cl, rfl, hl3, hb3, hlg⟩
        try simp only at hl3
        have hgr := hR.rdr.lt
        have hR3 := hR.below hb3
        have hB3 := hB.below hb3
        have hz3 := hb3.size
        have hb3W := btrans hb hb3
        clear b0 b1 b2 hR hB hb hb3 NX cx
        have ND2 := ND.out (w3.alloc (.cells #[.slice a0 bs.length k0, .int .i64 p2, .int .i64 e2] 35)) (hR3.below (balloc (Below.refl _ _) _))
        replace ND2 := Lib.hid ND2
        go_wp2_with fail
        refine ND2.out.mono ?_
        rintro r w4 ⟨hg4, ⟨b4, c4, rfl, hl4, hlen4, _⟩, hR4⟩
        try simp only at hl4 hlen4
        have hl34 := (hl3.alloc (.cells #[.slice a0 bs.length k0, .int .i64 p2, .int .i64 e2] 35)).grownR hg4 (fun ad had e => by have := hlg.out ad had; omega)
        have hB4 := (hB3.below (balloc (Below.refl _ _) (.cells #[.slice a0 bs.length k0, .int .i64 p2, .int .i64 e2] 35))).grow hg4 (fun e => hBg (by cases e; rfl))
        have hT4 := (RowAt.new (w := w3) (T := 35) #[.slice a0 bs.length k0, .int .i64 p2, .int .i64 e2] rfl).grow hg4 (fun e => by cases e; omega)
        have hb4 := bgrown (balloc hb3W (.cells #[.slice a0 bs.length k0, .int .i64 p2, .int .i64 e2] 35)) hg4 (fun j hj => by cases hj; exact hg)
        go_wp2_with fail
        refine (eqn_yes hl4 hl34 (by omega)).mono ?_
        rintro r w5 ⟨rfl, m5, rfl⟩
        replace hR4 := hR4.drewN m5
        replace hB4 := RowAt.below hB4 (bdrewN (Below.refl _ _) m5)
        replace hT4 := RowAt.below hT4 (bdrewN (Below.refl _ _) m5)
        replace hb4 := bdrewN hb4 m5
        have hg4 : True := trivial
        clear hl4 hl34
        have hl4 : True := trivial
        have hl34 : True := trivial
        generalize w4.drewN m5 = w4 at hR4 hB4 hT4 hb4 ⊢
        have t0 : w4.cell? ⟨w3.heap.size, 0, none⟩ = some (.slice a0 bs.length k0) := hT4.cell 0
        have t1 : w4.cell? ⟨w3.heap.size, 1, none⟩ = some (.int .i64 p2) := hT4.cell 1
        have t2 : w4.cell? ⟨w3.heap.size, 2, none⟩ = some (.int .i64 e2) := hT4.cell 2
        have b0 : w4.cell? ⟨w2.heap.size, 0, none⟩ = some (.slice a0 bs.length k0) := hB4.cell 0
        have b1 : w4.cell? ⟨w2.heap.size, 1, none⟩ = some (.int .i64 p) := hB4.cell 1
        have b2 : w4.cell? ⟨w2.heap.size, 2, none⟩ = some (.int .i64 e) := hB4.cell 2
        have f0 := hB4.free 0
        have f1 := hB4.free 1
        have f2 := hB4.free 2
        have hB5 := hB4.store3 (.slice a0 bs.length k0) (.int .i64 p2) (.int .i64 e2)
        have hR5 := ((hR4.other (j := 0) (v := .slice a0 bs.length k0) hBg hBa.out).other (j := 1) (v := .int .i64 p2) hBg hBa.out).other (j := 2) (v := .int .i64 e2) hBg hBa.out
        have hb5 := bset (n := w2.heap.size) (j := 2) (v := .int .i64 e2) (bset (n := w2.heap.size) (j := 1) (v := .int .i64 p2) (bset (n := w2.heap.size) (j := 0) (v := .slice a0 bs.length k0) hb4 (by omega)) (by omega)) (by omega)
        clear hg4 hR4 hT4 hR3 hB3 hb3W hB4 hb4 ND ND2 hl3 hl4 hl34
        go_wp2_with fail
        generalize ((w4.setCell ⟨w2.heap.size, 0, none⟩ (.slice a0 bs.length k0)).setCell ⟨w2.heap.size, 1, none⟩ (.int .i64 p2)).setCell ⟨w2.heap.size, 2, none⟩ (.int .i64 e2) = w5 at hB5 hR5 hb5 ⊢
        clear t0 t1 t2 b0 b1 b2 f0 f1 f2
        have d0 : w5.cell? ⟨w2.heap.size, 0, none⟩ = some (.slice a0 bs.length k0) := hB5.cell 0
        have d1 : w5.cell? ⟨w2.heap.size, 1, none⟩ = some (.int .i64 p2) := hB5.cell 1
        have d2 : w5.cell? ⟨w2.heap.size, 2, none⟩ = some (.int .i64 e2) := hB5.cell 2
        have hee : (e2 != e2) = false := by simp
        have hll : ((bs.length : Int) - (p2 : Int) != (bs.length : Int) - (p2 : Int)) = false := by simp
        have hp2 := hR5.hp
        go_region_with (first
          | (go_at_call 26; refine (err_any _ g _ _ _ _ _ (hR5.rdr.drewN _)).mono ?_; rintro r w6 ⟨rfl, rfl⟩)
          | (go_at_call 27; refine (Left_any _ g _ _ _ _ _ (hR5.drewN _)).mono ?_; rintro r w7 ⟨rfl, n7, rfl⟩)
          | (go_at_call 28; refine (x_left _ _ _ _ _ _ (by omega) (by omega)).mono ?_; rintro r w8 ⟨rfl, hb8⟩))
        all_goals (
          go_wp2
          go_roundw
          case rel => exact ⟨k + 1, p2, e2, by omega, by go_num, (hR5.drewN _).below hb8, RowAt.below (w := w5.drewN _) hB5 hb8, btrans (bdrewN hb5 _) hb8⟩
          case measure => simp [intOf]; omega)
      · have hx0' : (x == 0) = false := by simpa using hx0
        have hx1' : (x == 1) = false := by simpa using hx1
        have NX := XT.out wr p e hp (i0.below hb)
        have ND := fun w' h => DT.out w' g a c p e h
        generalize Octet.rText bs p e = q at NX ND
        obtain ⟨p2, e2, v⟩ := q
        replace NX := Lib.hid NX
        replace ND := Lib.hid ND
        go_wp2_with fail
        refine NX.out.mono ?_
        rintro r w3 ⟨rfl, hb3⟩
        have hR3 := hR.below hb3
        have hB3 := hB.below hb3
        have hz3 := hb3.size
        have hb3W := btrans hb hb3
        clear b0 b1 b2 hR hB hb hb3 NX cx
        have ND2 := ND.out (w3.alloc (.cells #[.slice a0 bs.length k0, .int .i64 p2, .int .i64 e2] 35)) (hR3.below (balloc (Below.refl _ _) _))
        replace ND2 := Lib.hid ND2
        go_wp2_with fail
        refine ND2.out.mono ?_
        rintro r w4 ⟨hg4, rfl, hR4⟩
        have hvv : (strOfNums v != strOfNums v) = false := by simp only [bne, str_self]; rfl
        have hB4 := (hB3.below (balloc (Below.refl _ _) (.cells #[.slice a0 bs.length k0, .int .i64 p2, .int .i64 e2] 35))).grow hg4 (fun e => hBg (by cases e; rfl))
        have hT4 := (RowAt.new (w := w3) (T := 35) #[.slice a0 bs.length k0, .int .i64 p2, .int .i64 e2] rfl).grow hg4 (fun e => by cases e; omega)
        have hb4 := bgrown (balloc hb3W (.cells #[.slice a0 bs.length k0, .int .i64 p2, .int .i64 e2] 35)) hg4 (fun j hj => by cases hj; exact hg)
        have t0 : w4.cell? ⟨w3.heap.size, 0, none⟩ = some (.slice a0 bs.length k0) := hT4.cell 0
        have t1 : w4.cell? ⟨w3.heap.size, 1, none⟩ = some (.int .i64 p2) := hT4.cell 1
        have t2 : w4.cell? ⟨w3.heap.size, 2, none⟩ = some (.int .i64 e2) := hT4.cell 2
        have b0 : w4.cell? ⟨w2.heap.size, 0, none⟩ = some (.slice a0 bs.length k0) := hB4.cell 0
        have b1 : w4.cell? ⟨w2.heap.size, 1, none⟩ = some (.int .i64 p) := hB4.cell 1
        have b2 : w4.cell? ⟨w2.heap.size, 2, none⟩ = some (.int .i64 e) := hB4.cell 2
        have f0 := hB4.free 0
        have f1 := hB4.free 1
        have f2 := hB4.free 2
        have hB5 := hB4.store3 (.slice a0 bs.length k0) (.int .i64 p2) (.int .i64 e2)
        have hR5 := ((hR4.other (j := 0) (v := .slice a0 bs.length k0) hBg hBa.out).other (j := 1) (v := .int .i64 p2) hBg hBa.out).other (j := 2) (v := .int .i64 e2) hBg hBa.out
        have hb5 := bset (n := w2.heap.size) (j := 2) (v := .int .i64 e2) (bset (n := w2.heap.size) (j := 1) (v := .int .i64 p2) (bset (n := w2.heap.size) (j := 0) (v := .slice a0 bs.length k0) hb4 (by omega)) (by omega)) (by omega)
        clear hg4 hR4 hT4 hR3 hB3 hb3W hB4 hb4 ND ND2
        go_wp2_with fail
        generalize ((w4.setCell ⟨w2.heap.size, 0, none⟩ (.slice a0 bs.length k0)).setCell ⟨w2.heap.size, 1, none⟩ (.int .i64 p2)).setCell ⟨w2.heap.size, 2, none⟩ (.int .i64 e2) = w5 at hB5 hR5 hb5 ⊢
        clear t0 t1 t2 b0 b1 b2 f0 f1 f2
        have d0 : w5.cell? ⟨w2.heap.size, 0, none⟩ = some (.slice a0 bs.length k0) := hB5.cell 0
        have d1 : w5.cell? ⟨w2.heap.size, 1, none⟩ = some (.int .i64 p2) := hB5.cell 1
        have d2 : w5.cell? ⟨w2.heap.size, 2, none⟩ = some (.int .i64 e2) := hB5.cell 2
        have hee : (e2 != e2) = false := by simp
        have hll : ((bs.length : Int) - (p2 : Int) != (bs.length : Int) - (p2 : Int)) = false := by simp
        have hp2 := hR5.hp
        go_region_with (first
          | (go_at_call 26; refine (err_any _ g _ _ _ _ _ (hR5.rdr.drewN _)).mono ?_; rintro r w6 ⟨rfl, rfl⟩)
          | (go_at_call 27; refine (Left_any _ g _ _ _ _ _ (hR5.drewN _)).mono ?_; rintro r w7 ⟨rfl, n7, rfl⟩)
          | (go_at_call 28; refine (x_left _ _ _ _ _ _ (by omega) (by omega)).mono ?_; rintro r w8 ⟨rfl, hb8⟩))
        all_goals (
          go_wp2
          go_roundw
          case rel => exact ⟨k + 1, p2, e2, by omega, by go_num, (hR5.drewN _).below hb8, RowAt.below (w := w5.drewN _) hB5 hb8, btrans (bdrewN hb5 _) hb8⟩
          case measure => simp [intOf]; omega)
    · obtain rfl : k = ks.length := by omega
      clear hR hB
      go_wp2_with fail
      refine (works_true _).mono ?_
      rintro e w13 ⟨rfl, hb13⟩
      have hb13 := btrans hb hb13
      go_wp2
      go_ret
      exact ⟨rfl, hb13⟩
end Go.Proofs.Ytpnkfhfaoomdpaa
