/- A reader's many and Text. Conditions: bytes. -/
import Derived.Test.YtpnkfhfaoomdpaaOctetRead
import Derived.Test.YtpnkfhfaoomdpaaConv
namespace Go.Proofs.Ytpnkfhfaoomdpaa
open Go.RowKit

namespace Octet
/-- how many things come: the place, the fault, the number -/
def rMany (bs : List Int) (p : Nat) (from_ : Nat) : Nat × Int × Int :=
  if (rNum bs p 0).2.1 ≠ 0 then ((rNum bs p 0).1, (rNum bs p 0).2.1, 0)
  else if (rNum bs p 0).2.2 < 0 then (from_, 3, 0)
  else if (bs.length : Int) - ((rNum bs p 0).1 : Int) < (rNum bs p 0).2.2 then (from_, 4, 0)
  else rNum bs p 0
end Octet

set_option maxHeartbeats 1000000 in
theorem many_any (w : World) (g : Nat) (a : Option Addr) (cap : Nat) (bs : List Int) (p : Nat) (h : RD w g a cap bs p 0) (from_ : Nat) (hf : from_ ≤ bs.length) :
    Calls Try.prog 37 #[.pointer (some ⟨g, 0, none⟩), .int .i64 from_] w fun r w' => w.grownBy w' (some g) ∧ r = .returned (.int .i64 (Octet.rMany bs p from_).2.2) ∧ RD w' g a cap bs (Octet.rMany bs p from_).1 (Octet.rMany bs p from_).2.1 := by
  have N := num_fn w g a cap bs p 0 h
  generalize hm : Octet.rMany bs p from_ = m
  have HM := Lib.hid hm
  clear hm
  unfold Octet.rMany at HM
  generalize Octet.rNum bs p 0 = q at N HM
  obtain ⟨p1, e1, v⟩ := q
  simp only at N HM
  have NN := Lib.hid N
  clear N h
  by_cases he : e1 = 0
  · subst he
    have he' : ((0 : Int) != 0) = false := rfl
    by_cases hv : v < 0
    · have HM2 : Hid (m = (from_, 3, 0)) := by have := HM.out; rw [if_neg (by simp), if_pos hv] at this; exact this.symm
      obtain rfl := HM2.out
      clear HM HM2
      go_enter Try.func37, Try.ntmps37
      go_wp2_with fail
      refine NN.out.mono ?_
      rintro r w1 ⟨hg1, rfl, h1⟩
      have c2 := h1.rdr.c2
      go_wp2_with fail
      refine (fault_any w1 g _ _ _ _ _ h1.rdr _ _).mono ?_
      rintro r w2 ⟨rfl, rfl⟩
      go_wp2
      go_ret
      have hg2 := grown_set (grown_set hg1 1 (.int .i64 from_)) 2 (.int .i64 3)
      have hg3 := grown_set (grown_set (grown_drew w1 g 0) 1 (.int .i64 from_)) 2 (.int .i64 3)
      exact ⟨hg2, rfl, h1.next hg3 ((h1.rdr.set1 _).set2 _) hf⟩
    · have hv' : decide (v < 0) = false := decide_eq_false hv
      have L := Lib.hid (fun w1 h => left_any w1 g a cap bs p1 0 h)
      by_cases hl : (bs.length : Int) - (p1 : Int) < v
      · have HM2 : Hid (m = (from_, 4, 0)) := by have := HM.out; rw [if_neg (by simp), if_neg hv, if_pos hl] at this; exact this.symm
        obtain rfl := HM2.out
        clear HM HM2
        go_enter Try.func37, Try.ntmps37
        go_wp2_with fail
        refine NN.out.mono ?_
        rintro r w1 ⟨hg1, rfl, h1⟩
        have c2 := h1.rdr.c2
        go_wp2_with fail
        refine (L.out _ h1).mono ?_
        rintro r w2 ⟨rfl, n2, rfl⟩
        have h2 := h1.drewN n2
        clear c2
        go_wp2_with fail
        refine (fault_any _ g _ _ _ _ _ h2.rdr _ _).mono ?_
        rintro r w3 ⟨rfl, rfl⟩
        go_wp2
        go_ret
        have hgd : w.grownBy (w1.drewN n2) (some g) := ⟨hg1.os, hg1.tape, hg1.output, hg1.size, hg1.block⟩
        have hg2 := grown_set (grown_set hgd 1 (.int .i64 from_)) 2 (.int .i64 4)
        have hg3 := grown_set (grown_set (grown_drew (w1.drewN n2) g 0) 1 (.int .i64 from_)) 2 (.int .i64 4)
        exact ⟨hg2, rfl, h2.next hg3 ((h2.rdr.set1 _).set2 _) hf⟩
      · have hl' : decide ((bs.length : Int) - (p1 : Int) < v) = false := decide_eq_false hl
        have HM2 : Hid (m = (p1, 0, v)) := by have := HM.out; rw [if_neg (by simp), if_neg hv, if_neg hl] at this; exact this.symm
        obtain rfl := HM2.out
        clear HM HM2
        go_enter Try.func37, Try.ntmps37
        go_wp2_with fail
        refine NN.out.mono ?_
        rintro r w1 ⟨hg1, rfl, h1⟩
        have c2 := h1.rdr.c2
        go_wp2_with fail
        refine (L.out _ h1).mono ?_
        rintro r w2 ⟨rfl, n2, rfl⟩
        have h2 := h1.drewN n2
        clear c2
        go_wp2
        go_ret
        exact ⟨⟨hg1.os, hg1.tape, hg1.output, hg1.size, hg1.block⟩, rfl, h2⟩
  · have he' : (e1 != 0) = true := by simpa using he
    have HM2 : Hid (m = (p1, e1, 0)) := by have := HM.out; rw [if_pos he] at this; exact this.symm
    obtain rfl := HM2.out
    clear HM HM2
    go_enter Try.func37, Try.ntmps37
    go_wp2_with fail
    refine NN.out.mono ?_
    rintro r w1 ⟨hg1, rfl, h1⟩
    have c2 := h1.rdr.c2
    go_wp2
    go_ret
    exact ⟨hg1, rfl, h1⟩
end Go.Proofs.Ytpnkfhfaoomdpaa
