/- The walk of a reader's List. Conditions: bytes. -/
import Derived.Test.YtpnkfhfaoomdpaaOctetRead4
namespace Go.Proofs.Ytpnkfhfaoomdpaa
open Go.RowKit

theorem Try.infoInt : (Try.prog.info? 3).map (fun i => (i.zero, i.size, i.bytes)) = some (some (.int .i64 0), 1, 8) := by kernel_rfl

/-- the numbers that are given back -/
def EndsInts (l : List Int) (N B : Nat) (r : Ending) (w' : World) : Prop := ∃ a' c', r = .returned (.slice a' l.length c') ∧ NumsAt .i64 w' a' l ∧ l.length ≤ N ∧ Hid (∀ ad : Addr, a' = some ad → B ≤ ad.block)

set_option maxHeartbeats 2000000 in
theorem rdlist_any (w : World) (g : Nat) (a : Option Addr) (cap : Nat) (bs : List Int) (p : Nat) (e : Int) (h : RD w g a cap bs p e) :
    Calls Try.prog 23 #[.pointer (some ⟨g, 0, none⟩)] w fun r w' => w.grownBy w' (some g) ∧ EndsInts (Octet.rList bs p e).2.2 bs.length w.heap.size r w' ∧ RD w' g a cap bs (Octet.rList bs p e).1 (Octet.rList bs p e).2.1 := by
  by_cases he : e = 0
  · subst he
    have NN := Lib.hid (none_any w g a bs.length cap p 0 h.rdr)
    have M := many_any w g a cap bs p h p h.hp
    have ok := Octet.rMany_pos bs p p
    generalize hm : Octet.rList bs p 0 = m
    have HM := Lib.hid hm
    clear hm
    unfold Octet.rList at HM
    generalize Octet.rMany bs p p = q at M HM ok
    obtain ⟨p1, e1, v⟩ := q
    simp only at M HM ok
    obtain ⟨n, rfl⟩ := Int.eq_ofNat_of_zero_le ok.1
    have hn : n ≤ bs.length := by omega
    rw [Int.toNat_natCast, if_neg (by simp)] at HM
    have MM := Lib.hid M
    clear M ok
    have c1 := h.rdr.c1
    have hb := h.hb
    have hg0 := h.rdr.lt
    have hp0 := h.hp
    have ha0 : Hid (0 < bs.length → ∀ ad : Addr, a = some ad → ad.block < w.heap.size) := fun h0 ad had => by
      obtain ⟨b, off, x, e, cx, _⟩ := h.nums.at 0 h0
      have := World.block_lt_of_cell? w _ cx
      rw [had] at e
      cases e
      exact this
    have HN := Lib.hid (fun w p e (h : RD w g a cap bs p e) => num_fn w g a cap bs p e h)
    clear h
    go_enter Try.func23, Try.ntmps23
    go_wp2_with fail
    refine NN.out.mono ?_
    rintro r w1 ⟨rfl, rfl⟩
    go_wp2_with fail
    refine MM.out.mono ?_
    rintro r w1 ⟨hg1, rfl, h1⟩
    go_wp2
    go_loopw [5, 18] (fun ov iv wr => ∃ (k : Nat) (ao : Option Addr) (co p2 : Nat) (e2 : Int) (out : List Int), k ≤ n ∧ iv = .int .i64 k ∧ ov = .slice ao k co ∧ OwnN .i64 wr w.heap.size 3 ao k co out ∧ w.grownBy wr (some g) ∧ RD wr g a cap bs p2 e2 ∧ Hid (Octet.rTake bs k (p1, e1, []) = (p2, e2, out))) (fun _ iv _ => n - (intOf iv).toNat)
    case atStart => exact ⟨0, none, 0, p1, e1, [], Nat.zero_le _, rfl, rfl, OwnN.nil _ _ _ _, hg1, h1, rfl⟩
    case round =>
      obtain ⟨k, ao, co, p2, e2, out, hk, rfl, rfl, ho, hgr, hR, hs⟩ := hrel
      have hsz := hgr.size
      by_cases hlt : k < n
      · go_wp2_with fail
        refine (HN.out _ _ _ hR).mono ?_
        rintro r w2 ⟨hg2, rfl, hR2⟩
        have hgr2 := grown_both hgr hg2
        have ho2 := ho.kept hg2 (.inr (fun e => by have := (ho.lt' e).1; omega))
        have hsz2 := hgr2.size
        have hs2 : Hid (Octet.rTake bs (k + 1) (p1, e1, []) = ((Octet.rNum bs p2 e2).1, (Octet.rNum bs p2 e2).2.1, out ++ [(Octet.rNum bs p2 e2).2.2])) := by show _ = _; rw [Octet.rTake_snoc, hs.out]
        generalize Octet.rNum bs p2 e2 = q at hR2 hs2
        obtain ⟨p3, e3, x⟩ := q
        simp only at hR2 hs2
        clear hg2 ho hgr hR hs hsz
        go_wp2_with (at_builtin; refine wp_app1x rfl _ _ 22 3 .i64 8 rfl Try.underlying22 Try.infoInt w.heap.size ao k co out rfl (ho2.alloc _) w2.heap.size 1 x rfl (new_cell1 _ _ _) (by omega) (by omega) (by simp; omega) ?_)
        intro a' cap' w3 ho3 hg3 _
        have hgr3 := grown_over (grown_over hgr2 (grown_alloc w2 (.cells #[.int .i64 x] 3)) (fun k hk => by cases hk)) hg3 ho2.block
        have hR3 : RD w3 g a cap bs p3 e3 := hR2.keep hg0 ha0.out (fun j hj => by
          rw [hg3.block j (by simp; omega) (fun e => by have := ho2.block j e.symm; omega)]
          exact Below.heap_alloc w2 _ j (by omega))
        go_wp2
        go_roundw
        case rel => exact ⟨k + 1, a', cap', p3, e3, _, by omega, by go_num, rfl, ho3, hgr3, hR3, hs2.out⟩
        case measure => simp [intOf]; omega
      · obtain rfl : k = n := by omega
        have c1 := hR.rdr.c1
        have c2 := hR.rdr.c2
        have f1 := hR.rdr.free 1
        have HM2 := HM.out
        rw [hs.out] at HM2
        clear HM
        by_cases he : e2 = 0
        · subst he
          rw [if_neg (by simp)] at HM2
          have HM3 := Lib.hid HM2.symm
          obtain rfl := HM3.out
          clear HM2 HM3
          go_wp2
          go_ret
          have hkl := owns_len ho
          subst hkl
          exact ⟨hgr, ⟨ao, co, rfl, NumsAt.of_owns ho, hn, fun ad had => (ho.lt' (by rw [had]; rfl)).1⟩, hR⟩
        · have he' : (e2 != 0) = true := by simpa using he
          rw [if_pos he] at HM2
          have HM3 := Lib.hid HM2.symm
          obtain rfl := HM3.out
          clear HM2 HM3
          go_wp2
          go_ret
          exact ⟨grown_set hgr _ _, ⟨none, 0, rfl, NumsAt.nil _ _ _, Nat.zero_le _, fun ad had => by cases had⟩, hR.next (grown_set (grown_drew wr g 0) 1 (.int .i64 p)) (hR.rdr.set1 _) hp0⟩
  · have hr : Hid (Octet.rList bs p e = (p, e, [])) := by unfold Hid Octet.rList; rw [if_pos he]
    have he' : (e != 0) = true := by simpa using he
    have NN := Lib.hid (none_any w g a bs.length cap p e h.rdr)
    rw [hr.out]
    clear hr
    go_enter Try.func23, Try.ntmps23
    go_wp2_with fail
    refine NN.out.mono ?_
    rintro e w9 ⟨rfl, rfl⟩
    go_wp2
    go_ret
    exact ⟨⟨rfl, rfl, rfl, Nat.le_refl _, fun _ _ _ => rfl⟩, ⟨none, 0, rfl, NumsAt.nil _ _ _, Nat.zero_le _, fun ad had => by cases had⟩, h⟩
end Go.Proofs.Ytpnkfhfaoomdpaa
