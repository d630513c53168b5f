/- The document's reader: many, List, Text. Conditions: bytes. -/
import Derived.Test.YtpnkfhfaoomdpaaOctetRef
import Derived.Test.YtpnkfhfaoomdpaaOctetRead5
namespace Go.Proofs.Ytpnkfhfaoomdpaa
open Go.RowKit

namespace Octet
def xMany (bs : List Int) (p : Nat) (e : Int) : Nat × Int × Int := if e ≠ 0 then (p, e, 0) else rMany bs p p
end Octet

theorem bel3 {w w1 w2 : World} {o o2 o3 : Obj} (hb : Below ((w.alloc o).alloc o2).heap.size ((w.alloc o).alloc o2) w1) (hb2 : Below (w1.alloc o3).heap.size (w1.alloc o3) w2) : Below w.heap.size w w2 := btrans (balloc (bel2 hb) o3) hb2
set_option maxHeartbeats 2000000 in
theorem x_many (w : World) (a : Option Addr) (cap : Nat) (bs : List Int) (p : Nat) (e : Int) (hN : NumsAt .u8 w a bs) (hp : p ≤ bs.length) (hb : bs.length ≤ 10000) (hx : ∀ x ∈ bs, 0 ≤ x ∧ x ≤ 255) :
    Calls Try.prog 36 #[.agg #[.slice a bs.length cap, .int .i64 p, .int .i64 e]] w (XEnds w a bs.length cap (Octet.xMany bs p e)) := by
  have X := Lib.hid (fun w' (h : NumsAt .u8 w' a bs) => x_num w' a cap bs p e h hp hb hx)
  have hN0 := Lib.hid (fun o o2 => (hN.alloc o).alloc o2)
  generalize hm : Octet.xMany bs p e = m
  replace hm : Hid (Octet.xMany bs p e = m) := hm
  have hq1 : (Octet.rNum bs p e).1 ≤ bs.length := Octet.rNum_le bs p e hp
  have he0 : e ≠ 0 → Octet.rNum bs p e = (p, e, 0) := fun h => by unfold Octet.rNum; rw [if_pos h]
  have hm2 : Hid (∀ p1 e1 v, Octet.rNum bs p e = (p1, e1, v) → m = if e1 ≠ 0 then (p1, e1, 0) else if v < 0 then (p, 3, 0) else if (bs.length : Int) - (p1 : Int) < v then (p, 4, 0) else (p1, e1, v)) := by
    intro p1 e1 v hq
    rw [← hm.out]
    unfold Octet.xMany
    by_cases he : e ≠ 0
    · have := he0 he
      rw [this] at hq
      simp only [Prod.mk.injEq] at hq
      obtain ⟨rfl, rfl, rfl⟩ := hq
      rw [if_pos he, if_pos he]
    · have he : e = 0 := by simpa using he
      subst he
      rw [if_neg (by simp)]
      unfold Octet.rMany
      rw [hq]
  clear hN hx he0 hm
  generalize Octet.rNum bs p e = q at X hq1 hm2
  obtain ⟨p1, e1, v⟩ := q
  have HM := hm2.out p1 e1 v rfl
  replace HM := Lib.hid HM
  clear hm2
  simp only at hq1
  by_cases he : e1 = 0
  · subst he
    have he' : ((0 : Int) != 0) = false := rfl
    by_cases hv : v < 0
    · have HM2 : Hid (m = (p, 3, 0)) := by have := HM.out; rwa [if_neg (by simp), if_pos hv] at this
      obtain rfl := HM2.out
      clear HM HM2
      go_enter Try.func36, Try.ntmps36
      go_wp2_with fail
      refine (X.out _ (hN0.out _ _)).mono ?_
      rintro r w1 ⟨rfl, hb1⟩
      obtain ⟨hc, hf⟩ := bold hb1
      have hz : w.heap.size + 1 < w1.heap.size := by have := hb1.size; simp at this; omega
      have hz0 : w.heap.size < w1.heap.size := by omega
      go_wp2_with fail
      refine (x_wrong _ _ _ _ _ _ _).mono ?_
      rintro r w2 ⟨rfl, hb2⟩
      obtain ⟨hc2, hf2⟩ := bold hb2
      have hz2 : w1.heap.size < w2.heap.size := by have := hb2.size; simp at this; omega
      have hz3 : w.heap.size < w2.heap.size := by omega
      have hz4 : w.heap.size + 1 < w2.heap.size := by omega
      go_wp2
      refine bodyPost_ret (v := .tuple #[.agg #[.slice a bs.length cap, .int .i64 p, .int .i64 3], .int .i64 0]) (by simp [results, Try.results36, go_sem, hc, hz, hc2, hz2, hz0, hz3, hz4]) rfl ⟨rfl, ?_⟩
      exact bset (bset (bset (bel3 hb1 hb2) (by omega)) (by omega)) (by omega)
    · have hv' : decide (v < 0) = false := decide_eq_false hv
      by_cases hl : (bs.length : Int) - (p1 : Int) < v
      · have HM2 : Hid (m = (p, 4, 0)) := by have := HM.out; rwa [if_neg (by simp), if_neg hv, if_pos hl] at this
        obtain rfl := HM2.out
        clear HM HM2
        go_enter Try.func36, Try.ntmps36
        go_wp2_with fail
        refine (X.out _ (hN0.out _ _)).mono ?_
        rintro r w1 ⟨rfl, hb1⟩
        obtain ⟨hc, hf⟩ := bold hb1
        have hz : w.heap.size + 1 < w1.heap.size := by have := hb1.size; simp at this; omega
        have hz0 : w.heap.size < w1.heap.size := by omega
        go_wp2_with fail
        refine (x_left _ _ _ _ _ _ (by omega) (by omega)).mono ?_
        rintro r w2 ⟨rfl, hb2⟩
        obtain ⟨hc2, hf2⟩ := bold hb2
        have hz2 : w1.heap.size < w2.heap.size := by have := hb2.size; simp at this; omega
        have hz3 : w.heap.size < w2.heap.size := by omega
        have hz4 : w.heap.size + 1 < w2.heap.size := by omega
        go_wp2_with fail
        refine (x_wrong _ _ _ _ _ _ _).mono ?_
        rintro r w3 ⟨rfl, hb3⟩
        obtain ⟨hc3, hf3⟩ := bold hb3
        have hz5 : w2.heap.size ≤ w3.heap.size := by have := hb3.size; simpa using this
        have hz6 : w.heap.size + 1 < w3.heap.size := by omega
        go_wp2
        refine bodyPost_ret (v := .tuple #[.agg #[.slice a bs.length cap, .int .i64 p, .int .i64 4], .int .i64 0]) (by simp [results, Try.results36, go_sem, hc, hz, hc2, hz2, hz0, hz3, hz4, hc3, hz5, hz6]) rfl ⟨rfl, ?_⟩
        exact bset (bset (bset (btrans (bel3 hb1 hb2) hb3) (by omega)) (by omega)) (by omega)
      · have hl' : decide ((bs.length : Int) - (p1 : Int) < v) = false := decide_eq_false hl
        have HM2 : Hid (m = (p1, 0, v)) := by have := HM.out; rwa [if_neg (by simp), if_neg hv, if_neg hl] at this
        obtain rfl := HM2.out
        clear HM HM2
        go_enter Try.func36, Try.ntmps36
        go_wp2_with fail
        refine (X.out _ (hN0.out _ _)).mono ?_
        rintro r w1 ⟨rfl, hb1⟩
        obtain ⟨hc, hf⟩ := bold hb1
        have hz : w.heap.size + 1 < w1.heap.size := by have := hb1.size; simp at this; omega
        have hz0 : w.heap.size < w1.heap.size := by omega
        go_wp2_with fail
        refine (x_left _ _ _ _ _ _ (by omega) (by omega)).mono ?_
        rintro r w2 ⟨rfl, hb2⟩
        obtain ⟨hc2, hf2⟩ := bold hb2
        have hz2 : w1.heap.size < w2.heap.size := by have := hb2.size; simp at this; omega
        have hz3 : w.heap.size < w2.heap.size := by omega
        have hz4 : w.heap.size + 1 < w2.heap.size := by omega
        go_wp2
        refine bodyPost_ret (v := .tuple #[.agg #[.slice a bs.length cap, .int .i64 p1, .int .i64 0], .int .i64 v]) (by simp [results, Try.results36, go_sem, hc, hz, hc2, hz2, hz0, hz3, hz4]) rfl ⟨rfl, ?_⟩
        exact bset (bset (bset (bel3 hb1 hb2) (by omega)) (by omega)) (by omega)
  · have he' : (e1 != 0) = true := by simpa using he
    have HM2 : Hid (m = (p1, e1, 0)) := by have := HM.out; rwa [if_pos he] at this
    obtain rfl := HM2.out
    clear HM HM2
    go_enter Try.func36, Try.ntmps36
    go_wp2_with fail
    refine (X.out _ (hN0.out _ _)).mono ?_
    rintro r w1 ⟨rfl, hb1⟩
    obtain ⟨hc, hf⟩ := bold hb1
    have hz : w.heap.size + 1 < w1.heap.size := by have := hb1.size; simp at this; omega
    have hz0 : w.heap.size < w1.heap.size := by omega
    go_wp2
    refine bodyPost_ret (v := .tuple #[.agg #[.slice a bs.length cap, .int .i64 p1, .int .i64 e1], .int .i64 0]) (by simp [results, Try.results36, go_sem, hc, hz, hz0]) rfl ⟨rfl, ?_⟩
    exact balloc (bset (bset (bset (bel2 hb1) (by omega)) (by omega)) (by omega)) _

namespace Octet
theorem rTake_bad (bs : List Int) : ∀ (n : Nat) (s : Nat × Int × List Int), s.2.1 ≠ 0 → (rTake bs n s).2.1 = s.2.1
  | 0, s, _ => rfl
  | n + 1, s, h => by
    unfold rTake
    have h1 : rNum bs s.1 s.2.1 = (s.1, s.2.1, 0) := by unfold rNum; rw [if_pos h]
    rw [h1]
    exact rTake_bad bs n _ h
theorem rTake_add (bs : List Int) : ∀ (n m : Nat) (s : Nat × Int × List Int), rTake bs (n + m) s = rTake bs m (rTake bs n s)
  | 0, m, s => by simp [rTake]
  | n + 1, m, s => by
    rw [show n + 1 + m = (n + m) + 1 by omega]
    unfold rTake
    rw [rTake_add bs n m]
    cases m <;> simp [rTake]
theorem rMany_le (bs : List Int) (p : Nat) (hp : p ≤ bs.length) : (rMany bs p p).1 ≤ bs.length := by
  have := rNum_le bs p 0 hp
  unfold rMany
  by_cases h1 : (rNum bs p 0).2.1 ≠ 0
  · rw [if_pos h1]; exact this
  · rw [if_neg h1]
    by_cases h2 : (rNum bs p 0).2.2 < 0
    · rw [if_pos h2]; exact hp
    · rw [if_neg h2]
      by_cases h3 : (bs.length : Int) - ((rNum bs p 0).1 : Int) < (rNum bs p 0).2.2
      · rw [if_pos h3]; exact hp
      · rw [if_neg h3]; exact this
end Octet
/-- a reader and a list -/
def XEndsL (w : World) (a : Option Addr) (n cap : Nat) (q : Nat × Int × List Int) (r : Ending) (w' : World) : Prop := ∃ a' c', r = .returned (.tuple #[.agg #[.slice a n cap, .int .i64 q.1, .int .i64 q.2.1], .slice a' q.2.2.length c']) ∧ NumsAt .i64 w' a' q.2.2 ∧ Below w.heap.size w w' ∧ Hid (∀ ad : Addr, a' = some ad → w.heap.size ≤ ad.block)
/-- the cells of a reader of the document's -/
theorem RowAt.store3 {w : World} {B T : Nat} {x y z : Value} (h : RowAt w B T [x, y, z]) (x' y' z' : Value) : RowAt (((w.setCell ⟨B, 0, none⟩ x').setCell ⟨B, 1, none⟩ y').setCell ⟨B, 2, none⟩ z') B T [x', y', z'] := ((h.set 0 x').set 1 y').set 2 z'

theorem RowAt.grow {w w' : World} {B T : Nat} {l : List Value} {row : Option Nat} (h : RowAt w B T l) (hg : w.grownBy w' row) (hne : row ≠ some B) : RowAt w' B T l := h.keep (hg.block B h.lt (fun e => hne e.symm))
set_option maxHeartbeats 4000000 in
theorem x_list (w : World) (a : Option Addr) (cap : Nat) (bs : List Int) (p : Nat) (e : Int) (hN : NumsAt .u8 w a bs) (hp : p ≤ bs.length) (hb : bs.length ≤ 10000) (hx : ∀ x ∈ bs, 0 ≤ x ∧ x ≤ 255) :
    Calls Try.prog 22 #[.agg #[.slice a bs.length cap, .int .i64 p, .int .i64 e]] w (XEndsL w a bs.length cap (Octet.rList bs p e)) := by
  have X := Lib.hid (fun w' (h : NumsAt .u8 w' a bs) => x_many w' a cap bs p e h hp hb hx)
  have XN := Lib.hid (fun w' p e (hp : p ≤ bs.length) (h : NumsAt .u8 w' a bs) => x_num w' a cap bs p e h hp hb hx)
  have hN0 := Lib.hid (fun o o2 => (hN.alloc o).alloc o2)
  have hN1 := Lib.hid (fun w' (hb : Below w.heap.size w w') => hN.below hb)
  clear hN hx
  generalize hm : Octet.rList bs p e = m
  have hq : ∃ p1 e1 v, Octet.xMany bs p e = (p1, e1, v) ∧ p1 ≤ bs.length ∧ 0 ≤ v ∧ v ≤ bs.length ∧ m = if (Octet.rTake bs v.toNat (p1, e1, [])).2.1 ≠ 0 then (p, (Octet.rTake bs v.toNat (p1, e1, [])).2.1, []) else Octet.rTake bs v.toNat (p1, e1, []) := by
    unfold Octet.xMany
    by_cases he : e ≠ 0
    · rw [if_pos he]
      refine ⟨p, e, 0, rfl, hp, Int.le_refl _, by omega, ?_⟩
      rw [← hm]
      unfold Octet.rList
      rw [if_pos he]
      show _ = if e ≠ 0 then (p, e, []) else (p, e, [])
      rw [if_pos he]
    · rw [if_neg he]
      have ok := Octet.rMany_pos bs p p
      have hle := Octet.rMany_le bs p hp
      rw [← hm]
      unfold Octet.rList
      rw [if_neg he]
      generalize Octet.rMany bs p p = M at ok hle ⊢
      obtain ⟨p1, e1, v⟩ := M
      exact ⟨p1, e1, v, rfl, hle, ok.1, ok.2, rfl⟩
  obtain ⟨p1, e1, v, hq, hp1, hv0, hv1, hm2⟩ := hq
  rw [hq] at X
  clear hq hm
  obtain ⟨n, rfl⟩ := Int.eq_ofNat_of_zero_le hv0
  rw [Int.toNat_natCast] at hm2
  have HM := Lib.hid hm2
  clear hm2 hv0
  have hn : n ≤ bs.length := by omega
  clear hv1
  go_enter Try.func22, Try.ntmps22
  go_wp2_with fail
  refine (X.out _ (hN0.out _ _)).mono ?_
  rintro r w1 ⟨rfl, hb1⟩
  have r0 : RowAt w1 w.heap.size 35 [.slice a bs.length cap, .int .i64 p, .int .i64 e] := ((RowAt.new #[.slice a bs.length cap, .int .i64 p, .int .i64 e] rfl).below ((Below.refl _ _).alloc (Nat.le_refl _) _)).below hb1
  have r1 : RowAt w1 (w.heap.size + 1) 35 [.slice none 0 0, .int .i64 0, .int .i64 0] := (RowAt.new (w := w.alloc (.cells #[.slice a bs.length cap, .int .i64 p, .int .i64 e] 35)) (n := w.heap.size + 1) #[.slice none 0 0, .int .i64 0, .int .i64 0] (by simp)).below hb1
  have hz : w.heap.size + 1 < w1.heap.size := by have := hb1.size; simp at this; omega
  have hbW1 := bel2 hb1
  clear hb1
  have hzz : w1.heap.size ≠ w.heap.size := by omega
  have hzy : w1.heap.size ≠ w.heap.size + 1 := by omega
  go_wp2
  go_loopw [6, 7] (fun ov iv wr => ∃ (k : Nat) (ao : Option Addr) (co p2 : Nat) (e2 : Int) (out : List Int), k ≤ n ∧ iv = .int .i64 k ∧ ov = .slice ao k co ∧ OwnN .i64 wr (w1.heap.size + 1) 3 ao k co out ∧
      RowAt wr w1.heap.size 35 [.slice a bs.length cap, .int .i64 p2, .int .i64 e2] ∧ RowAt wr w.heap.size 35 [.slice a bs.length cap, .int .i64 p, .int .i64 e] ∧
      RowAt wr (w.heap.size + 1) 35 [.slice none 0 0, .int .i64 0, .int .i64 0] ∧ Below w.heap.size w wr ∧ w1.heap.size < wr.heap.size ∧ p2 ≤ bs.length ∧ Hid (Octet.rTake bs k (p1, e1, []) = (p2, e2, out))) (fun _ iv _ => n - (intOf iv).toNat)
  case atStart => exact ⟨0, none, 0, p1, e1, [], Nat.zero_le _, rfl, rfl, OwnN.nil _ _ _ _, RowAt.new #[.slice a bs.length cap, .int .i64 p1, .int .i64 e1] rfl, r0.below (balloc (Below.refl _ _) _), r1.below (balloc (Below.refl _ _) _), balloc hbW1 _, by simp, hp1, rfl⟩
  case round =>
    obtain ⟨k, ao, co, p2, e2, out, hk, rfl, rfl, ho, rB, rA, rR, hbr, hsz, hp2, hs⟩ := hrel
    clear r0 r1 hbW1
    have b0 : wr.cell? ⟨w1.heap.size, 0, none⟩ = some (.slice a bs.length cap) := rB.cell 0
    have b1 : wr.cell? ⟨w1.heap.size, 1, none⟩ = some (.int .i64 p2) := rB.cell 1
    have b2 : wr.cell? ⟨w1.heap.size, 2, none⟩ = some (.int .i64 e2) := rB.cell 2
    by_cases hlt : k < n
    · by_cases he2 : e2 = 0
      · subst he2
        have NX := XN.out wr p2 0 hp2 (hN1.out _ hbr)
        have hle := Octet.rNum_le bs p2 0 hp2
        have hs2 : Hid (Octet.rTake bs (k + 1) (p1, e1, []) = ((Octet.rNum bs p2 0).1, (Octet.rNum bs p2 0).2.1, out ++ [(Octet.rNum bs p2 0).2.2])) := by show _ = _; rw [Octet.rTake_snoc, hs.out]
        generalize Octet.rNum bs p2 0 = q at NX hle hs2
        obtain ⟨p3, e3, x⟩ := q
        simp only at hle hs2
        replace NX := Lib.hid NX
        clear hs
        go_wp2_with fail
        refine NX.out.mono ?_
        rintro r w2 ⟨rfl, hb2⟩
        have sB := rB.below hb2
        have sA := rA.below hb2
        have sR := rR.below hb2
        have so := ho.below' hb2
        have hz2 := hb2.size
        have hbr2 := btrans hbr hb2
        clear b0 b1 b2 rB rA rR ho hb2 hbr NX
        have b0 : w2.cell? ⟨w1.heap.size, 0, none⟩ = some (.slice a bs.length cap) := sB.cell 0
        have b1 : w2.cell? ⟨w1.heap.size, 1, none⟩ = some (.int .i64 p2) := sB.cell 1
        have b2 : w2.cell? ⟨w1.heap.size, 2, none⟩ = some (.int .i64 0) := sB.cell 2
        have f0 := sB.free 0
        have f1 := sB.free 1
        have f2 := sB.free 2
        have tB := sB.store3 (.slice a bs.length cap) (.int .i64 p3) (.int .i64 e3)
        have tA := ((sA.other hzz 0 (.slice a bs.length cap)).other hzz 1 (.int .i64 p3)).other hzz 2 (.int .i64 e3)
        have tR := ((sR.other hzy 0 (.slice a bs.length cap)).other hzy 1 (.int .i64 p3)).other hzy 2 (.int .i64 e3)
        have hgs : w2.grownBy (((w2.setCell ⟨w1.heap.size, 0, none⟩ (.slice a bs.length cap)).setCell ⟨w1.heap.size, 1, none⟩ (.int .i64 p3)).setCell ⟨w1.heap.size, 2, none⟩ (.int .i64 e3)) (some w1.heap.size) := grown_set (grown_set (grown_set (grown_drew w2 w1.heap.size 0) _ _) _ _) _ _
        have hbs := bset (n := w1.heap.size) (j := 2) (v := .int .i64 e3) (bset (n := w1.heap.size) (j := 1) (v := .int .i64 p3) (bset (n := w1.heap.size) (j := 0) (v := .slice a bs.length cap) hbr2 (by omega)) (by omega)) (by omega)
        have to := so.kept hgs (.inr (fun e => by have := (so.lt' e).1; omega))
        have hzs := hgs.size
        have hz0 : (((w2.setCell ⟨w1.heap.size, 0, none⟩ (.slice a bs.length cap)).setCell ⟨w1.heap.size, 1, none⟩ (.int .i64 p3)).setCell ⟨w1.heap.size, 2, none⟩ (.int .i64 e3)).heap.size = w2.heap.size := by simp [World.setCell]
        have HZ := Lib.hid hz0
        have HB := Lib.hid hbs
        have HG := Lib.hid hgs
        have hzw := hbr2.size
        have hco := so.caps
        clear hz0 hbs hgs so hbr2
        go_wp2_with (at_builtin; refine wp_app1x rfl _ _ 22 3 .i64 8 rfl Try.underlying22 Try.infoInt (w1.heap.size + 1) ao k co out rfl (to.alloc _) w2.heap.size 1 x rfl (by rw [World.cell?_alloc_at _ _ _ _ HZ.out.symm]; rfl) (by omega) (by omega) (by simp; omega) ?_)
        intro a' cap' w3 ho3 hg3 _
        have hblk := to.block
        have tB3 := (tB.below (balloc (Below.refl _ _) (.cells #[.int .i64 x] 3))).grow hg3 (fun e => by have := hblk _ e; omega)
        have tA3 := (tA.below (balloc (Below.refl _ _) (.cells #[.int .i64 x] 3))).grow hg3 (fun e => by have := hblk _ e; omega)
        have tR3 := (tR.below (balloc (Below.refl _ _) (.cells #[.int .i64 x] 3))).grow hg3 (fun e => by have := hblk _ e; omega)
        have hb3 := bgrown (balloc HB.out (.cells #[.int .i64 x] 3)) hg3 (fun j hj => by have := hblk j hj; omega)
        have hz3 := tB3.lt
        clear tB tA tR to HB HG HZ hg3 hblk
        go_wp2
        go_roundw
        case rel => exact ⟨k + 1, a', cap', p3, e3, _, by omega, by go_num, rfl, ho3, tB3, tA3, tR3, hb3, hz3, hle, hs2.out⟩
        case measure => simp [intOf]; omega
      · skip
        have hbad : Hid (m = (p, e2, [])) := by
          have h1 := HM.out
          have h2 : (Octet.rTake bs n (p1, e1, [])).2.1 = e2 := by rw [show n = k + (n - k) by omega, Octet.rTake_add, hs.out, Octet.rTake_bad _ _ _ he2]
          rw [h2, if_pos he2] at h1
          exact h1
        obtain rfl := hbad.out
        clear hbad HM hs
        have hne : (e2 == 0) = false := by simpa using he2
        have hne2 : (e2 != 0) = true := by simpa using he2
        have a0 : wr.cell? ⟨w.heap.size, 0, none⟩ = some (.slice a bs.length cap) := rA.cell 0
        have a1 : wr.cell? ⟨w.heap.size, 1, none⟩ = some (.int .i64 p) := rA.cell 1
        have a2 : wr.cell? ⟨w.heap.size, 2, none⟩ = some (.int .i64 e) := rA.cell 2
        go_wp2_with fail
        refine (x_wrong _ _ _ _ _ _ _).mono ?_
        rintro r w2 ⟨rfl, hb2⟩
        have sR := rR.below hb2
        have hbr2 := btrans hbr hb2
        clear b0 b1 b2 a0 a1 a2 rB rA rR ho hb2 hbr
        have b0 : w2.cell? ⟨w.heap.size + 1, 0, none⟩ = some (.slice none 0 0) := sR.cell 0
        have b1 : w2.cell? ⟨w.heap.size + 1, 1, none⟩ = some (.int .i64 0) := sR.cell 1
        have b2 : w2.cell? ⟨w.heap.size + 1, 2, none⟩ = some (.int .i64 0) := sR.cell 2
        have f0 := sR.free 0
        have f1 := sR.free 1
        have f2 := sR.free 2
        go_wp2
        refine bodyPost_ret (v := .tuple #[.agg #[.slice a bs.length cap, .int .i64 p, .int .i64 e2], .slice none 0 0]) (by simp [results, Try.results22, go_sem, b0, b1, b2, f0, f1, f2]) rfl ⟨none, 0, rfl, NumsAt.nil _ _ _, ?_, fun ad had => by cases had⟩
        exact bset (bset (bset hbr2 (by omega)) (by omega)) (by omega)
    · obtain rfl : k = n := by omega
      by_cases he2 : e2 = 0
      · subst he2
        have hok : Hid (m = (p2, 0, out)) := by
          have h1 := HM.out
          rw [hs.out, if_neg (by simp)] at h1
          exact h1
        obtain rfl := hok.out
        clear hok HM hs
        have a0 : wr.cell? ⟨w.heap.size + 1, 0, none⟩ = some (.slice none 0 0) := rR.cell 0
        have a1 : wr.cell? ⟨w.heap.size + 1, 1, none⟩ = some (.int .i64 0) := rR.cell 1
        have a2 : wr.cell? ⟨w.heap.size + 1, 2, none⟩ = some (.int .i64 0) := rR.cell 2
        have f0 := rR.free 0
        have f1 := rR.free 1
        have f2 := rR.free 2
        have hkl := owns_len ho
        have hN := ((NumsAt.of_owns ho).grownR (g := w.heap.size + 1) (grown_set (grown_set (grown_set (grown_drew wr (w.heap.size + 1) 0) 0 (.slice a bs.length cap)) 1 (.int .i64 p2)) 2 (.int .i64 0)) (fun ad had e => by have := (ho.lt' (by rw [had]; rfl)).1; omega))
        go_wp2
        refine bodyPost_ret (v := .tuple #[.agg #[.slice a bs.length cap, .int .i64 p2, .int .i64 0], .slice ao k co]) (by simp [results, Try.results22, go_sem, a0, a1, a2, f0, f1, f2]) rfl ⟨ao, co, by rw [← hkl], hN, ?_, fun ad had => by have := (ho.lt' (by rw [had]; rfl)).1; omega⟩
        exact bset (bset (bset hbr (by omega)) (by omega)) (by omega)
      · skip
        have hbad : Hid (m = (p, e2, [])) := by
          have h1 := HM.out
          have h2 : (Octet.rTake bs k (p1, e1, [])).2.1 = e2 := by rw [hs.out]
          rw [h2, if_pos he2] at h1
          exact h1
        obtain rfl := hbad.out
        clear hbad HM hs
        have hne : (e2 == 0) = false := by simpa using he2
        have hne2 : (e2 != 0) = true := by simpa using he2
        have a0 : wr.cell? ⟨w.heap.size, 0, none⟩ = some (.slice a bs.length cap) := rA.cell 0
        have a1 : wr.cell? ⟨w.heap.size, 1, none⟩ = some (.int .i64 p) := rA.cell 1
        have a2 : wr.cell? ⟨w.heap.size, 2, none⟩ = some (.int .i64 e) := rA.cell 2
        go_wp2_with fail
        refine (x_wrong _ _ _ _ _ _ _).mono ?_
        rintro r w2 ⟨rfl, hb2⟩
        have sR := rR.below hb2
        have hbr2 := btrans hbr hb2
        clear b0 b1 b2 a0 a1 a2 rB rA rR ho hb2 hbr
        have b0 : w2.cell? ⟨w.heap.size + 1, 0, none⟩ = some (.slice none 0 0) := sR.cell 0
        have b1 : w2.cell? ⟨w.heap.size + 1, 1, none⟩ = some (.int .i64 0) := sR.cell 1
        have b2 : w2.cell? ⟨w.heap.size + 1, 2, none⟩ = some (.int .i64 0) := sR.cell 2
        have f0 := sR.free 0
        have f1 := sR.free 1
        have f2 := sR.free 2
        go_wp2
        refine bodyPost_ret (v := .tuple #[.agg #[.slice a bs.length cap, .int .i64 p, .int .i64 e2], .slice none 0 0]) (by simp [results, Try.results22, go_sem, b0, b1, b2, f0, f1, f2]) rfl ⟨none, 0, rfl, NumsAt.nil _ _ _, ?_, fun ad had => by cases had⟩
        exact bset (bset (bset hbr2 (by omega)) (by omega)) (by omega)
end Go.Proofs.Ytpnkfhfaoomdpaa
