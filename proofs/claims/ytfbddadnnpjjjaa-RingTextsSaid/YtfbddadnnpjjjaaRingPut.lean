/- A queue of numbers: Put. Conditions: few numbers. -/
import Derived.Test.YtfbddadnnpjjjaaRing
import Derived.Test.YtfbddadnnpjjjaaApp
import Derived.Test.YtfbddadnnpjjjaaRingLib
namespace Go.Proofs.Ytfbddadnnpjjjaa
open Go.RowKit

theorem infoN : (Try.prog.info? 3).map (fun i => (i.zero, i.size, i.bytes)) = some (some (.int .i64 0), 1, 8) := by kernel_rfl
theorem put_no (w : World) (B q : Nat) (m : Int) (a : Option Addr) (c : Nat) (xs : List Int) (h : QAt w B q m a c xs) (hm : m ≤ (xs.length : Int)) (x : Int) :
    Calls Try.prog 11 #[.pointer (some ⟨q, 0, none⟩), .int .i64 x] w fun e w' => e = .returned (.bool false) ∧ Quiet w w' := by
  have F := full_any w B q m a c xs h
  rw [decide_eq_true hm] at F
  replace F := Lib.hid F
  clear h hm
  go_enter Try.func11, Try.ntmps11
  go_wp2_with fail
  refine F.out.mono ?_
  rintro e w1 ⟨rfl, hq⟩
  go_wp2
  go_ret
  exact ⟨rfl, hq⟩
set_option maxHeartbeats 1000000 in
theorem put_yes (w : World) (B q : Nat) (m : Int) (a : Option Addr) (c : Nat) (xs : List Int) (h : QAt w B q m a c xs) (hm : (xs.length : Int) < m) (hx : xs.length ≤ 70000) (x : Int) :
    Calls Try.prog 11 #[.pointer (some ⟨q, 0, none⟩), .int .i64 x] w fun e w' => ∃ a' c', e = .returned (.bool true) ∧ QAt w' B q m a' c' (xs ++ [x]) ∧ Keeps w w' (fun j => j = q ∨ OI a xs.length c = some j) ∧ (∀ j, OI a' (xs.length + 1) c' = some j → OI a xs.length c = some j ∨ w.heap.size ≤ j) := by
  have F := full_any w B q m a c xs h
  rw [decide_eq_false (by omega)] at F
  replace F := Lib.hid F
  obtain ⟨n, hn⟩ : ∃ n, n = xs.length := ⟨_, rfl⟩
  have hb := h.box
  have ho := h.own
  have hne := h.ne
  have hq := h.hq
  have hql := hb.lt
  rw [← hn] at hb ho hne hx ⊢
  replace hn := Lib.hid hn
  replace hb := Lib.hid hb
  replace ho := Lib.hid ho
  replace hne := Lib.hid hne
  clear h hm
  go_enter Try.func11, Try.ntmps11
  go_wp2_with fail
  refine F.out.mono ?_
  rintro e w1 ⟨rfl, k, rfl⟩
  have c2 : (w.drewN k).cell? ⟨q, 2, none⟩ = some (.slice a n c) := hb.out.cell 2
  have OW : Hid (OwnN .i64 ((w.drewN k).alloc (.cells #[.int .i64 x] 3)) B 3 a n c xs) := OwnN.alloc (w := w.drewN k) ho.out _
  have NC : Hid (((w.drewN k).alloc (.cells #[.int .i64 x] 3)).cell? ⟨w.heap.size, 0, none⟩ = some (.int .i64 x)) := World.cell?_alloc_at _ _ _ _ rfl
  have y5 : Hid ((n + 1) * 8 ≤ 140737488355328) := by show _ ≤ _; omega
  have x5 : Hid (B ≤ ((w.drewN k).alloc (.cells #[.int .i64 x] 3)).heap.size) := by show _ ≤ _; simp; omega
  clear F
  go_wp2_with (at_builtin; refine wp_app1x rfl _ _ 26 3 .i64 8 rfl Try.underlying26 infoN B a n c _ rfl OW.out _ 1 x rfl NC.out y5.out (by decide) x5.out ?_)
  intro a' c' w5 ho5 hg5 hat5
  have hA : Keeps w ((w.drewN k).alloc (.cells #[.int .i64 x] 3)) (fun j => OI a n c = some j) := Keeps.of_below (balloc (bdrewN (Below.refl _ _) k) _)
  have hk5 : Keeps w w5 (fun j => OI a n c = some j) := hA.trans (Keeps.of_grown (S := fun j => OI a n c = some j) hg5 (fun j e => e)) (fun _ _ h => h)
  have r5 : RowAt w5 q TQI [.bool true, .int .i64 m, .slice a n c] := hb.out.keeps hk5 (fun e => hne.out e)
  have d2 : w5.cell? ⟨q, 2, none⟩ = some (.slice a n c) := r5.cell 2
  have f2 := r5.free 2
  have hks : Keeps w5 (w5.setCell ⟨q, 2, none⟩ (.slice a' (n + 1) c')) (fun j => j = q) := Keeps.set w5 q 2 _ rfl
  have hnew : ∀ j, OI a' (n + 1) c' = some j → OI a n c = some j ∨ w.heap.size ≤ j := fun j hj => by
    rcases hat5 with h1 | h1
    · exact .inl (h1.symm.trans hj)
    · have h2 := h1.symm.trans hj
      have h3 := Option.some.inj h2
      refine .inr ?_
      have := hA.size
      omega
  have hne5 : OI a' (n + 1) c' ≠ some q := fun e => by
    rcases hnew q e with h1 | h1
    · exact hne.out h1
    · omega
  have hQ : Hid (QAt (w5.setCell ⟨q, 2, none⟩ (.slice a' (n + 1) c')) B q m a' c' (xs ++ [x])) := by
    have e : (xs ++ [x]).length = n + 1 := by rw [List.length_append, ← hn.out]; rfl
    refine ⟨?_, ?_, ?_, hq⟩
    · rw [e]
      exact r5.set 2 _
    · rw [e]
      exact ho5.keeps hks (fun j hj ej => by subst ej; exact hne5 hj)
    · rw [e]
      exact hne5
  have hK : Hid (Keeps w (w5.setCell ⟨q, 2, none⟩ (.slice a' (n + 1) c')) (fun j => j = q ∨ OI a n c = some j)) :=
    Keeps.trans (S1 := fun j => j = q) ⟨hk5.os, hk5.tape, hk5.output, hk5.size, fun j hj hs => hk5.block j hj (fun e => hs (.inr e))⟩ hks (fun j _ e => .inl e)
  replace hnew := Lib.hid hnew
  replace hk5 := Lib.hid hk5
  replace r5 := Lib.hid r5
  replace hks := Lib.hid hks
  clear OW NC y5 x5 ho5 hg5 hat5 hA c2
  go_wp2
  go_ret
  exact ⟨a', c', rfl, hQ.out, hK.out, hnew.out⟩
end Go.Proofs.Ytfbddadnnpjjjaa
