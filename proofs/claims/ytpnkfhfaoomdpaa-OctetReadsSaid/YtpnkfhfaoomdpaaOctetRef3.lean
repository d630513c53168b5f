/- The document's reader: Text. Conditions: bytes. -/
import Derived.Test.YtpnkfhfaoomdpaaOctetRef2
import Derived.BigRegion
namespace Go.Proofs.Ytpnkfhfaoomdpaa
open Go.RowKit

/-- a reader and a text -/
def XEndsT (w : World) (a : Option Addr) (n cap : Nat) (q : Nat × Int × List Int) (r : Ending) (w' : World) : Prop := r = .returned (.tuple #[.agg #[.slice a n cap, .int .i64 q.1, .int .i64 q.2.1], .string (strOfNums q.2.2)]) ∧ Below w.heap.size w w'

set_option maxHeartbeats 4000000 in
theorem x_text (w : World) (a : Option Addr) (cap : Nat) (bs : List Int) (p : Nat) (e : Int) (hN : NumsAt .u8 w a bs) (hp : p ≤ bs.length) (hb : bs.length ≤ 10000) (hcap : bs.length ≤ cap) (hx : ∀ x ∈ bs, 0 ≤ x ∧ x ≤ 255) :
    Calls Try.prog 24 #[.agg #[.slice a bs.length cap, .int .i64 p, .int .i64 e]] w (XEndsT w a bs.length cap (Octet.rText bs p e)) := by
  have X := Lib.hid (fun w' (h : NumsAt .u8 w' a bs) => x_many w' a cap bs p e h hp hb hx)
  have hN0 := Lib.hid (fun o o2 => (hN.alloc o).alloc o2)
  have hN1 := Lib.hid (fun w' (hb : Below w.heap.size w w') => hN.below hb)
  clear hN hx
  generalize hm : Octet.rText bs p e = m
  have hq : ∃ p1 e1 v, Octet.xMany bs p e = (p1, e1, v) ∧ p1 ≤ bs.length ∧ 0 ≤ v ∧ (e1 = 0 → v ≤ (bs.length : Int) - p1) ∧ m = if e1 ≠ 0 then (p1, e1, []) else (p1 + v.toNat, 0, (bs.drop p1).take v.toNat) := by
    unfold Octet.xMany
    by_cases he : e ≠ 0
    · rw [if_pos he]
      refine ⟨p, e, 0, rfl, hp, Int.le_refl _, by omega, ?_⟩
      rw [← hm]
      unfold Octet.rText
      rw [if_pos he, if_pos he]
    · rw [if_neg he]
      have ok := Octet.rMany_pos bs p p
      have ok2 := @Octet.rMany_ok bs p p
      have hle := Octet.rMany_le bs p hp
      rw [← hm]
      unfold Octet.rText
      rw [if_neg he]
      generalize Octet.rMany bs p p = M at ok ok2 hle ⊢
      obtain ⟨p1, e1, v⟩ := M
      exact ⟨p1, e1, v, rfl, hle, ok.1, fun h => (ok2 h).2, rfl⟩
  obtain ⟨p1, e1, v, hq, hp1, hv0, hv1, hm2⟩ := hq
  rw [hq] at X
  clear hq hm
  obtain ⟨n, rfl⟩ := Int.eq_ofNat_of_zero_le hv0
  rw [Int.toNat_natCast] at hm2
  replace hm2 := Lib.hid hm2
  clear hv0
  by_cases he : e1 = 0
  · subst he
    have hv := hv1 rfl
    have hok : Hid (m = (p1 + n, 0, (bs.drop p1).take n)) := by have := hm2.out; rwa [if_neg (by simp)] at this
    obtain rfl := hok.out
    clear hok hm2 hv1
    go_enter Try.func24, Try.ntmps24
    go_wp2_with fail
    refine (X.out _ (hN0.out _ _)).mono ?_
    rintro r w1 ⟨rfl, hb1⟩
    obtain ⟨hc, hf⟩ := bold hb1
    have hz : w.heap.size + 1 < w1.heap.size := by have := hb1.size; simp at this; omega
    have hz0 : w.heap.size < w1.heap.size := by omega
    have hs1 := fun w => run_cut_lh (P := Try.prog) Try.underlying25 Try.sizeByte a bs.length cap p1 (p1 + n) (kl := .i64) (kh := .i64) (L := (p1 : Int)) (H := (p1 : Int) + (n : Int)) rfl (by omega) (by omega) (by omega) w
    have hpn : p1 + n - p1 = n := by omega
    have hw1 : IntKind.i64.wrap ((p1 : Int) + (n : Int)) = (p1 : Int) + (n : Int) := IntWalk.i64_in _ (by omega)
    have X1 : w1 = w1 := rfl
    have rA := ((RowAt.new (w := w) (T := 35) #[.slice a bs.length cap, .int .i64 p, .int .i64 e] rfl).below ((Below.refl _ _).alloc (Nat.le_refl _) _)).below hb1
    have rR := (RowAt.new (T := 35) (w := w.alloc (.cells #[.slice a bs.length cap, .int .i64 p, .int .i64 e] 35)) (n := w.heap.size + 1) #[.slice none 0 0, .int .i64 0, .int .i64 0] (by simp)).below hb1
    have hbW := balloc (bel2 hb1) (.cells #[.slice a bs.length cap, .int .i64 p1, .int .i64 0] 35)
    have hN2 := hN1.out _ hbW
    have rB := RowAt.new (T := 35) (w := w1) #[.slice a bs.length cap, .int .i64 p1, .int .i64 0] rfl
    have rA := rA.below (balloc (Below.refl _ _) (.cells #[.slice a bs.length cap, .int .i64 p1, .int .i64 0] 35))
    have rR := rR.below (balloc (Below.refl _ _) (.cells #[.slice a bs.length cap, .int .i64 p1, .int .i64 0] 35))
    clear X1 hN0
    go_wp2
    clear hc hf hb1
    generalize hW2 : w1.alloc (.cells #[.slice a bs.length cap, .int .i64 p1, .int .i64 0] 35) = w2 at rA rB rR hN2 hbW ⊢
    clear hW2
    have a0 : w2.cell? ⟨w.heap.size, 0, none⟩ = some (.slice a bs.length cap) := rA.cell 0
    have b1 : w2.cell? ⟨w1.heap.size, 1, none⟩ = some (.int .i64 p1) := rB.cell 1
    have c0 : w2.cell? ⟨w.heap.size + 1, 0, none⟩ = some (.slice none 0 0) := rR.cell 0
    have c1 : w2.cell? ⟨w.heap.size + 1, 1, none⟩ = some (.int .i64 0) := rR.cell 1
    have c2 : w2.cell? ⟨w.heap.size + 1, 2, none⟩ = some (.int .i64 0) := rR.cell 2
    have f0 := rR.free 0
    have f1 := rR.free 1
    have f2 := rR.free 2
    have hbS := bset (n := w.heap.size + 1) (j := 2) (v := .int .i64 0) (bset (n := w.heap.size + 1) (j := 1) (v := .int .i64 ((p1 : Int) + (n : Int))) (bset (n := w.heap.size + 1) (j := 0) (v := .slice a bs.length cap) hbW (by omega)) (by omega)) (by omega)
    have hN3 := hN1.out _ hbS
    have cv1 := conv_run (P := Try.prog) (w := w2.drew) (src := 25) (dst := 9) (e := 5) (a := cutA a cap p1 1) (len := n) (cap := cap - p1) (xs := (bs.drop p1).take n) Try.underlying25 Try.underlying5 Try.underlying9 (((hN2.drewN 1).cut hcap).upto n) (by rw [List.length_take, List.length_drop]; omega)
    have cv2 := conv_run (P := Try.prog) (w := (((w2.setCell ⟨w.heap.size + 1, 0, none⟩ (.slice a bs.length cap)).setCell ⟨w.heap.size + 1, 1, none⟩ (.int .i64 ((p1 : Int) + (n : Int)))).setCell ⟨w.heap.size + 1, 2, none⟩ (.int .i64 0)).drew) (src := 25) (dst := 9) (e := 5) (a := cutA a cap p1 1) (len := n) (cap := cap - p1) (xs := (bs.drop p1).take n) Try.underlying25 Try.underlying5 Try.underlying9 (((hN3.drewN 1).cut hcap).upto n) (by rw [List.length_take, List.length_drop]; omega)
    replace hbS := Lib.hid hbS
    clear rA rB rR hN2 hbW hN3
    go_region
    all_goals (
      go_wp2
      refine bodyPost_ret (v := .tuple #[.agg #[.slice a bs.length cap, .int .i64 ((p1 : Int) + (n : Int)), .int .i64 0], .string (strOfNums ((bs.drop p1).take n))]) (by simp [results, Try.results24, go_sem, c0, c1, c2, f0, f1, f2]) rfl ⟨by simp, ?_⟩
      exact hbS.out.drew)
  · have hbad : Hid (m = (p1, e1, [])) := by have := hm2.out; rwa [if_pos he] at this
    obtain rfl := hbad.out
    have he' : (e1 != 0) = true := by simpa using he
    clear hbad hm2 hv1 he
    go_enter Try.func24, Try.ntmps24
    go_wp2_with fail
    refine (X.out _ (hN0.out _ _)).mono ?_
    rintro r w1 ⟨rfl, hb1⟩
    obtain ⟨hc, hf⟩ := bold hb1
    have hz : w.heap.size + 1 < w1.heap.size := by have := hb1.size; simp at this; omega
    have hz0 : w.heap.size < w1.heap.size := by omega
    go_wp2
    refine bodyPost_ret (v := .tuple #[.agg #[.slice a bs.length cap, .int .i64 p1, .int .i64 e1], .string ⟨#[]⟩]) (by simp [results, Try.results24, go_sem, hc, hz, hf, hz0]) rfl ⟨rfl, ?_⟩
    exact balloc (bset (bset (bset (bel2 hb1) (by omega)) (by omega)) (by omega)) _
end Go.Proofs.Ytpnkfhfaoomdpaa
