/- A reader's Text. Conditions: bytes. -/
import Derived.Test.YtpnkfhfaoomdpaaOctetRead2
namespace Go.Proofs.Ytpnkfhfaoomdpaa
open Go.RowKit

namespace Octet
/-- what Text makes of a reader: the place, the fault, the text -/
def rText (bs : List Int) (p : Nat) (e : Int) : Nat × Int × List Int :=
  if e ≠ 0 then (p, e, [])
  else if (rMany bs p p).2.1 ≠ 0 then ((rMany bs p p).1, (rMany bs p p).2.1, [])
  else ((rMany bs p p).1 + (rMany bs p p).2.2.toNat, 0, (bs.drop (rMany bs p p).1).take (rMany bs p p).2.2.toNat)
/-- a number of things that come is one of bytes that are left -/
theorem rMany_ok {bs : List Int} {p from_ : Nat} (h : (rMany bs p from_).2.1 = 0) : 0 ≤ (rMany bs p from_).2.2 ∧ (rMany bs p from_).2.2 ≤ (bs.length : Int) - ((rMany bs p from_).1 : Int) := by
  unfold rMany at h ⊢
  by_cases h1 : (rNum bs p 0).2.1 ≠ 0
  · rw [if_pos h1] at h; exact absurd h h1
  · rw [if_neg h1] at h ⊢
    by_cases h2 : (rNum bs p 0).2.2 < 0
    · rw [if_pos h2] at h; cases h
    · rw [if_neg h2] at h ⊢
      by_cases h3 : (bs.length : Int) - ((rNum bs p 0).1 : Int) < (rNum bs p 0).2.2
      · rw [if_pos h3] at h; cases h
      · rw [if_neg h3]
        omega
end Octet

set_option maxHeartbeats 1000000 in
theorem text_any (w : World) (g : Nat) (a : Option Addr) (cap : Nat) (bs : List Int) (p : Nat) (e : Int) (h : RD w g a cap bs p e) :
    Calls Try.prog 25 #[.pointer (some ⟨g, 0, none⟩)] w fun r w' => w.grownBy w' (some g) ∧ r = .returned (.string (strOfNums (Octet.rText bs p e).2.2)) ∧ RD w' g a cap bs (Octet.rText bs p e).1 (Octet.rText bs p e).2.1 := by
  by_cases he : e = 0
  · subst he
    have NN := Lib.hid (none_any w g a bs.length cap p 0 h.rdr)
    have M := many_any w g a cap bs p h p h.hp
    have ok := @Octet.rMany_ok bs p p
    generalize hm : Octet.rText bs p 0 = m
    have HM := Lib.hid hm
    clear hm
    unfold Octet.rText at HM
    generalize Octet.rMany bs p p = q at M HM ok
    obtain ⟨p1, e1, v⟩ := q
    simp only at M HM ok
    have MM := Lib.hid M
    clear M
    have c1 := h.rdr.c1
    by_cases he : e1 = 0
    · subst he
      obtain ⟨hv0, hv1⟩ := ok rfl
      obtain ⟨n, rfl⟩ := Int.eq_ofNat_of_zero_le hv0
      have HM2 : Hid (m = (p1 + n, 0, (bs.drop p1).take n)) := by have := HM.out; rw [if_neg (by simp), if_neg (by simp)] at this; exact this.symm
      have hb := h.hb
      obtain rfl := HM2.out
      clear HM HM2 ok hv0 h
      go_enter Try.func25, Try.ntmps25
      go_wp2_with fail
      refine NN.out.mono ?_
      rintro r w1 ⟨rfl, rfl⟩
      go_wp2_with fail
      refine MM.out.mono ?_
      rintro r w1 ⟨hg1, rfl, h1⟩
      have hp1 := h1.hp
      have hcc := h1.hc
      have c2 := h1.rdr.c2
      have d1 := h1.rdr.c1
      have f1 := h1.rdr.free 1
      have hpn : p1 + n ≤ bs.length := by omega
      have hg2 := grown_set (grown_drew w1 g 0) 1 (.int .i64 ((p1 + n : Nat) : Int))
      have h2 : RD (w1.setCell ⟨g, 1, none⟩ (.int .i64 ((p1 + n : Nat) : Int))) g a cap bs (p1 + n) 0 := h1.next hg2 (h1.rdr.set1 _) hpn
      have hg3 := grown_set hg1 1 (.int .i64 ((p1 + n : Nat) : Int))
      rw [show ((p1 + n : Nat) : Int) = (p1 : Int) + (n : Int) by omega] at h2 hg3
      have hs1 := fun w => run_cut_lh (P := Try.prog) Try.underlying25 Try.sizeByte a bs.length cap p1 (p1 + n) (kl := .i64) (kh := .i64) (L := (p1 : Int)) (H := (p1 : Int) + (n : Int)) rfl (by omega) (by omega) (by omega) w
      have e0 := h2.rdr.c0
      have e1 := h2.rdr.c1
      rw [show ((p1 + n : Nat) : Int) = (p1 : Int) + (n : Int) by omega] at e1
      have cv := fun k => conv_run (P := Try.prog) (w := (w1.setCell ⟨g, 1, none⟩ (.int .i64 ((p1 : Int) + (n : Int)))).drewN k) (src := 25) (dst := 9) (e := 5) (a := cutA a cap p1 1) (len := n) (cap := cap - p1) (xs := (bs.drop p1).take n) Try.underlying25 Try.underlying5 Try.underlying9 (((h2.nums.drewN k).cut hcc).upto n) (by rw [List.length_take, List.length_drop]; omega)
      have hw1 : IntKind.i64.wrap ((p1 : Int) + (n : Int)) = (p1 : Int) + (n : Int) := IntWalk.i64_in _ (by omega)
      have hw2 : IntKind.i64.wrap ((p1 : Int) + (n : Int) - (n : Int)) = (p1 : Int) := by rw [show (p1 : Int) + (n : Int) - (n : Int) = (p1 : Int) by omega]; exact IntWalk.i64_in _ (by omega)
      go_wp2
      go_quiet (fail)
      go_wp2
      go_ret
      exact ⟨⟨hg3.os, hg3.tape, hg3.output, hg3.size, hg3.block⟩, rfl, h2.drewN _⟩
    · have he' : (e1 != 0) = true := by simpa using he
      have HM2 : Hid (m = (p1, e1, [])) := by have := HM.out; rw [if_neg (by simp), if_pos he] at this; exact this.symm
      obtain rfl := HM2.out
      clear HM HM2 ok h
      go_enter Try.func25, Try.ntmps25
      go_wp2_with fail
      refine NN.out.mono ?_
      rintro r w1 ⟨rfl, rfl⟩
      go_wp2_with fail
      refine MM.out.mono ?_
      rintro r w1 ⟨hg1, rfl, h1⟩
      have c2 := h1.rdr.c2
      go_wp2
      go_ret
      exact ⟨hg1, rfl, h1⟩
  · have hr : Hid (Octet.rText bs p e = (p, e, [])) := by unfold Hid Octet.rText; rw [if_pos he]
    have he' : (e != 0) = true := by simpa using he
    have NN := Lib.hid (none_any w g a bs.length cap p e h.rdr)
    rw [hr.out]
    clear hr
    go_enter Try.func25, Try.ntmps25
    go_wp2_with fail
    refine NN.out.mono ?_
    rintro e w9 ⟨rfl, rfl⟩
    go_wp2
    go_ret
    exact ⟨⟨rfl, rfl, rfl, Nat.le_refl _, fun _ _ _ => rfl⟩, rfl, h⟩
end Go.Proofs.Ytpnkfhfaoomdpaa
