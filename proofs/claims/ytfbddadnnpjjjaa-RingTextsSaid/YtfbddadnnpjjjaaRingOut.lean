/- A queue of numbers: Push, out, Take, Last, All, and the law's list. Conditions: few numbers. -/
import Derived.Test.YtfbddadnnpjjjaaRingPut
import Derived.Test.YtfbddadnnpjjjaaRingAll
import Derived.Test.YtfbddadnnpjjjaaCollectI
namespace Go.Proofs.Ytfbddadnnpjjjaa
open Go.RowKit Go.Shelf

/-- how a queue turns: nothing but its own blocks -/
def Turns (w w' : World) (q : Nat) (o o' : Option Nat) : Prop := Keeps w w' (fun j => j = q ∨ o = some j) ∧ (∀ j, o' = some j → o = some j ∨ w.heap.size ≤ j)
theorem push_no (w : World) (B q : Nat) (m : Int) (a : Option Addr) (c : Nat) (xs : List Int) (h : QAt w B q m a c xs) (hm : m ≤ (xs.length : Int)) (x : Int) :
    Calls Try.prog 13 #[.pointer (some ⟨q, 0, none⟩), .int .i64 x] w fun e w' => e = .returned (.bool false) ∧ Quiet w w' := by
  have F := full_any w B q m a c xs h
  rw [decide_eq_true hm] at F
  replace F := Lib.hid F
  clear h hm
  go_enter Try.func13, Try.ntmps13
  go_wp2_with fail
  refine F.out.mono ?_
  rintro e w1 ⟨rfl, hq⟩
  go_wp2
  go_ret
  exact ⟨rfl, hq⟩
set_option maxHeartbeats 1000000 in
theorem push_yes (w : World) (B q : Nat) (m : Int) (a : Option Addr) (c : Nat) (xs : List Int) (h : QAt w B q m a c xs) (hm : (xs.length : Int) < m) (hx : xs.length ≤ 70000) (x : Int) :
    Calls Try.prog 13 #[.pointer (some ⟨q, 0, none⟩), .int .i64 x] w fun e w' => ∃ a' c', e = .returned (.bool true) ∧ QAt w' B q m a' c' (x :: xs) ∧ Turns w w' q (OI a xs.length c) (OI a' (xs.length + 1) c') := by
  have F := full_any w B q m a c xs h
  rw [decide_eq_false (by omega)] at F
  replace F := Lib.hid F
  obtain ⟨n, hn⟩ : ∃ n, n = xs.length := ⟨_, rfl⟩
  have hb := h.box
  have ho := h.own
  have hne := h.ne
  have hq := h.hq
  have hql := hb.lt
  have hnl : ∀ j, OI a xs.length c = some j → B ≤ j ∧ j < w.heap.size := fun j hj => ho.lt2 hj
  rw [← hn] at hb ho hne hx hnl ⊢
  replace hn := Lib.hid hn
  replace hb := Lib.hid hb
  replace ho := Lib.hid ho
  replace hne := Lib.hid hne
  clear h hm
  go_enter Try.func13, Try.ntmps13
  go_wp2_with fail
  refine F.out.mono ?_
  rintro e w1 ⟨rfl, k, rfl⟩
  have c2 : (w.drewN k).cell? ⟨q, 2, none⟩ = some (.slice a n c) := hb.out.cell 2
  obtain ⟨w2, hw2⟩ : ∃ w2, (w.drewN k).alloc (.cells #[.int .i64 x] 3) = w2 := ⟨_, rfl⟩
  have hB2 : Below w.heap.size w w2 := by rw [← hw2]; exact balloc (bdrewN (Below.refl _ _) k) _
  have hg2 : w2.heap[w.heap.size]? = some (.cells #[.int .i64 x] 3 (0, 0)) := by rw [← hw2]; exact World.alloc_heap_new _ _
  have OW : OwnN .i64 w2 B 3 a n c xs := by rw [← hw2]; exact OwnN.alloc (w := w.drewN k) ho.out _
  have hI := Lib.hid (ins_any w2 B n c w.heap.size 1 a xs x OW (by have := hB2.size; omega) hx hg2 (fun e => by have := (hnl _ e).2; omega))
  clear F
  go_wp2_with fail
  refine hI.out.mono ?_
  rintro e w5 ⟨a', c', rfl, ho5, hg5, hat5⟩
  have hA : Keeps w w2 (fun j => OI a n c = some j) := Keeps.of_below hB2
  have hk5 : Keeps w w5 (fun j => OI a n c = some j) := hA.trans (Keeps.of_grown (S := fun j => OI a n c = some j) hg5 (fun j e => e)) (fun _ _ h => h)
  have r5 : RowAt w5 q TQI [.bool true, .int .i64 m, .slice a n c] := hb.out.keeps hk5 (fun e => hne.out e)
  have d2 : w5.cell? ⟨q, 2, none⟩ = some (.slice a n c) := r5.cell 2
  have f2 := r5.free 2
  have hks : Keeps w5 (w5.setCell ⟨q, 2, none⟩ (.slice a' (n + 1) c')) (fun j => j = q) := Keeps.set w5 q 2 _ rfl
  have hnew : ∀ j, OI a' (n + 1) c' = some j → OI a n c = some j ∨ w.heap.size ≤ j := fun j hj => by
    rcases hat5 with h1 | h1
    · exact .inl (h1.symm.trans hj)
    · have h2 := h1.symm.trans hj
      have h3 := Option.some.inj h2
      have := hB2.size
      exact .inr (by omega)
  have hne5 : OI a' (n + 1) c' ≠ some q := fun e => by
    rcases hnew q e with h1 | h1
    · exact hne.out h1
    · omega
  have hQ : Hid (QAt (w5.setCell ⟨q, 2, none⟩ (.slice a' (n + 1) c')) B q m a' c' (x :: xs)) := by
    have e : (x :: xs).length = n + 1 := by rw [List.length_cons, ← hn.out]
    refine ⟨?_, ?_, ?_, hq⟩
    · rw [e]
      exact r5.set 2 _
    · rw [e]
      exact ho5.keeps hks (fun j hj ej => by subst ej; exact hne5 hj)
    · rw [e]
      exact hne5
  have hK : Hid (Turns w (w5.setCell ⟨q, 2, none⟩ (.slice a' (n + 1) c')) q (OI a n c) (OI a' (n + 1) c')) :=
    ⟨Keeps.trans (S1 := fun j => j = q) ⟨hk5.os, hk5.tape, hk5.output, hk5.size, fun j hj hs => hk5.block j hj (fun e => hs (.inr e))⟩ hks (fun j _ e => .inl e), hnew⟩
  clear hnew hk5 r5 hks OW ho5 hg5 hat5 hA c2 hw2 hg2 hI hnl
  go_wp2
  go_ret
  exact ⟨a', c', rfl, hQ.out, hK.out⟩
set_option maxHeartbeats 1000000 in
theorem out_yes (w : World) (B q : Nat) (m : Int) (a : Option Addr) (c : Nat) (xs : List Int) (h : QAt w B q m a c xs) (k : Nat) (hk : k < xs.length) (hx : xs.length ≤ 70000) :
    Calls Try.prog 31 #[.pointer (some ⟨q, 0, none⟩), .int .i64 k] w fun e w' => ∃ a' c', e = .returned (.tuple #[.int .i64 (xs.getD k 0), .bool true]) ∧ QAt w' B q m a' c' (xs.eraseIdx k) ∧ Turns w w' q (OI a xs.length c) (OI a' (xs.length - 1) c') := by
  have F := Lib.hid (len_any w B q m a c xs h)
  obtain ⟨n, hn⟩ : ∃ n, n = xs.length := ⟨_, rfl⟩
  have hb := h.box
  have ho := h.own
  have hne := h.ne
  have hq := h.hq
  have hql := hb.lt
  obtain ⟨y, hy⟩ : ∃ y, y = xs.getD k 0 := ⟨_, rfl⟩
  rw [← hn] at hb ho hne hx hk F ⊢
  rw [← hy]
  obtain ⟨g, rfl, hgB, hgl⟩ := ho.addr (by omega)
  have cy : w.cell? ⟨g, k, none⟩ = some (.int .i64 y) := by rw [hy]; exact own_cell ho k (by omega)
  have hD := Lib.hid (del_any w B g n c k xs ho hk k (k + 1) rfl rfl)
  replace hn := Lib.hid hn
  replace hb := Lib.hid hb
  replace ho := Lib.hid ho
  replace hne := Lib.hid hne
  replace hy := Lib.hid hy
  have c2 : w.cell? ⟨q, 2, none⟩ = some (.slice (some ⟨g, 0, none⟩) n c) := hb.out.cell 2
  have hk1 : (k : Int) < n := by omega
  clear h
  go_enter Try.func31, Try.ntmps31
  go_wp2_with fail
  refine F.out.mono ?_
  rintro e w1 ⟨rfl, rfl⟩
  clear F
  go_wp2_with fail
  refine hD.out.mono ?_
  rintro e w5 ⟨rfl, ho5, hg5⟩
  have hk5 : Keeps w w5 (fun j => g = j) := Keeps.of_grown (S := fun j => g = j) hg5 (fun j e => Option.some.inj e)
  have hgq : g ≠ q := fun e => hne.out (by rw [e]; rfl)
  have r5 : RowAt w5 q TQI [.bool true, .int .i64 m, .slice (some ⟨g, 0, none⟩) n c] := hb.out.keeps hk5 hgq
  have d2 : w5.cell? ⟨q, 2, none⟩ = some (.slice (some ⟨g, 0, none⟩) n c) := r5.cell 2
  have f2 := r5.free 2
  have hks : Keeps w5 (w5.setCell ⟨q, 2, none⟩ (.slice (some ⟨g, 0, none⟩) (n - 1) c)) (fun j => j = q) := Keeps.set w5 q 2 _ rfl
  have hQ : Hid (QAt (w5.setCell ⟨q, 2, none⟩ (.slice (some ⟨g, 0, none⟩) (n - 1) c)) B q m (some ⟨g, 0, none⟩) c (xs.eraseIdx k)) := by
    have e : (xs.eraseIdx k).length = n - 1 := by rw [List.length_eraseIdx_of_lt (by have := hn.out; omega), ← hn.out]
    refine ⟨?_, ?_, ?_, hq⟩
    · rw [e]
      exact r5.set 2 _
    · rw [e]
      exact ho5.keeps hks (fun j hj ej => by subst ej; exact hgq (Option.some.inj hj))
    · rw [e]
      exact fun e => hgq (Option.some.inj e)
  have hK : Hid (Turns w (w5.setCell ⟨q, 2, none⟩ (.slice (some ⟨g, 0, none⟩) (n - 1) c)) q (OI (some ⟨g, 0, none⟩) n c) (OI (some ⟨g, 0, none⟩) (n - 1) c)) :=
    ⟨Keeps.trans (S1 := fun j => j = q) ⟨hk5.os, hk5.tape, hk5.output, hk5.size, fun j hj hs => hk5.block j hj (fun e => hs (.inr (by rw [← e]; rfl)))⟩ hks (fun j _ e => .inl e), fun j hj => .inl hj⟩
  clear hk5 r5 hks ho5 hg5 c2 hD hgq cy
  go_wp2
  refine bodyPost_ret (v := .tuple #[.int .i64 y, .bool true]) (by simp [results, Try.results31, go_sem]) rfl ?_
  exact ⟨_, c, rfl, hQ.out, hK.out⟩
theorem out_no (w : World) (B q : Nat) (m : Int) (a : Option Addr) (c : Nat) (h : QAt w B q m a c []) (k : Int) :
    Calls Try.prog 31 #[.pointer (some ⟨q, 0, none⟩), .int .i64 k] w fun e w' => e = .returned (.tuple #[.int .i64 0, .bool false]) ∧ w = w' := by
  have F := Lib.hid (len_any w B q m a c [] h)
  clear h
  go_enter Try.func31, Try.ntmps31
  go_wp2_with fail
  refine F.out.mono ?_
  rintro e w1 ⟨rfl, rfl⟩
  go_wp2
  refine bodyPost_ret (v := .tuple #[.int .i64 0, .bool false]) (by simp [results, Try.results31, go_sem]) rfl ⟨rfl, rfl⟩
theorem take_yes (w : World) (B q : Nat) (m : Int) (a : Option Addr) (c : Nat) (xs : List Int) (h : QAt w B q m a c xs) (hk : 0 < xs.length) (hx : xs.length ≤ 70000) :
    Calls Try.prog 15 #[.pointer (some ⟨q, 0, none⟩)] w fun e w' => ∃ a' c', e = .returned (.tuple #[.int .i64 (xs.getD 0 0), .bool true]) ∧ QAt w' B q m a' c' (xs.eraseIdx 0) ∧ Turns w w' q (OI a xs.length c) (OI a' (xs.length - 1) c') := by
  have O := Lib.hid (out_yes w B q m a c xs h 0 hk hx)
  obtain ⟨y, hy⟩ : ∃ y, y = xs.getD 0 0 := ⟨_, rfl⟩
  rw [← hy] at O ⊢
  replace hy := Lib.hid hy
  clear h
  go_enter Try.func15, Try.ntmps15
  go_wp2_with fail
  refine O.out.mono ?_
  rintro e w1 ⟨a', c', rfl, h1, h2⟩
  replace h1 := Lib.hid h1
  replace h2 := Lib.hid h2
  go_wp2
  go_ret2
  exact ⟨a', c', rfl, h1.out, h2.out⟩
theorem take_no (w : World) (B q : Nat) (m : Int) (a : Option Addr) (c : Nat) (h : QAt w B q m a c []) :
    Calls Try.prog 15 #[.pointer (some ⟨q, 0, none⟩)] w fun e w' => e = .returned (.tuple #[.int .i64 0, .bool false]) ∧ w = w' := by
  have O := Lib.hid (out_no w B q m a c h 0)
  clear h
  go_enter Try.func15, Try.ntmps15
  go_wp2_with fail
  refine O.out.mono ?_
  rintro e w1 ⟨rfl, rfl⟩
  go_wp2
  go_ret2
  exact ⟨rfl, rfl⟩
theorem last_yes (w : World) (B q : Nat) (m : Int) (a : Option Addr) (c : Nat) (xs : List Int) (h : QAt w B q m a c xs) (hk : 0 < xs.length) (hx : xs.length ≤ 70000) :
    Calls Try.prog 17 #[.pointer (some ⟨q, 0, none⟩)] w fun e w' => ∃ a' c', e = .returned (.tuple #[.int .i64 (xs.getD (xs.length - 1) 0), .bool true]) ∧ QAt w' B q m a' c' (xs.eraseIdx (xs.length - 1)) ∧ Turns w w' q (OI a xs.length c) (OI a' (xs.length - 1) c') := by
  have F := Lib.hid (len_any w B q m a c xs h)
  have O := out_yes w B q m a c xs h (xs.length - 1) (by omega) hx
  obtain ⟨y, hy⟩ : ∃ y, y = xs.getD (xs.length - 1) 0 := ⟨_, rfl⟩
  rw [← hy] at O ⊢
  rw [show ((xs.length - 1 : Nat) : Int) = (xs.length : Int) - 1 by omega] at O
  replace O := Lib.hid O
  replace hy := Lib.hid hy
  clear h
  go_enter Try.func17, Try.ntmps17
  go_wp2_with fail
  refine F.out.mono ?_
  rintro e w1 ⟨rfl, rfl⟩
  go_wp2_with fail
  refine O.out.mono ?_
  rintro e w1 ⟨a', c', rfl, h1, h2⟩
  replace h1 := Lib.hid h1
  replace h2 := Lib.hid h2
  go_wp2
  go_ret2
  exact ⟨a', c', rfl, h1.out, h2.out⟩
theorem last_no (w : World) (B q : Nat) (m : Int) (a : Option Addr) (c : Nat) (h : QAt w B q m a c []) :
    Calls Try.prog 17 #[.pointer (some ⟨q, 0, none⟩)] w fun e w' => e = .returned (.tuple #[.int .i64 0, .bool false]) ∧ w = w' := by
  have F := Lib.hid (len_any w B q m a c [] h)
  have O := Lib.hid (out_no w B q m a c h (-1))
  clear h
  go_enter Try.func17, Try.ntmps17
  go_wp2_with fail
  refine F.out.mono ?_
  rintro e w1 ⟨rfl, rfl⟩
  go_wp2_with fail
  refine O.out.mono ?_
  rintro e w1 ⟨rfl, rfl⟩
  go_wp2
  go_ret2
  exact ⟨rfl, rfl⟩
theorem all_any (w : World) (p : Option Addr) :
    Calls Try.prog 32 #[.pointer p] w fun e w' => e = .returned (.func (.func 42) #[] #[.pointer (some ⟨w.heap.size, 0, none⟩)]) ∧ w' = w.alloc (.cells #[.pointer p] 24) := by
  go_enter Try.func32, Try.ntmps32
  go_wp2
  go_ret
  exact ⟨rfl, rfl⟩
/-- what a list of all that stands in a queue is -/
def Lists (xs : List Int) (w : World) (e : Ending) (w' : World) : Prop := ∃ a c, e = .returned (.tuple #[.slice a xs.length c, .bool true]) ∧ OwnN .i64 w' w.heap.size 3 a xs.length c xs ∧ Below w.heap.size w w'
theorem own_base {k : IntKind} {w : World} {base base' e n cap : Nat} {a : Option Addr} {xs : List Int} (h : OwnN k w base e a n cap xs) (hb : base' ≤ base) : OwnN k w base' e a n cap xs := by
  unfold OwnN at h ⊢
  refine ⟨h.1, ?_⟩
  rcases h.2 with hn | ⟨g, cap, cur, hv, hbg, rest⟩
  · exact .inl hn
  · exact .inr ⟨g, cap, cur, hv, Nat.le_trans hb hbg, rest⟩
theorem list_any (w : World) (B q : Nat) (m : Int) (a : Option Addr) (c : Nat) (xs : List Int) (h : QAt w B q m a c xs) (hx : xs.length ≤ 70000) :
    Calls Try.prog 18 #[.pointer (some ⟨q, 0, none⟩)] w (Lists xs w) := by
  have hb1 : Below w.heap.size w (w.alloc (.cells #[.pointer (some ⟨q, 0, none⟩)] 24)) := balloc (Below.refl _ _) _
  have hs := all1_seq _ B q w.heap.size m a c xs (h.below hb1) (by omega) (Boxed.new w _ _).cell
  have C := Lib.hid (collectI _ _ 42 _ (fun _ _ _ => True) (fun ys => ys = xs) _ xs.length (Nat.le_refl _) (by omega) (enters_of Try.func42 (by kernel_rfl) rfl) (fun _ _ _ _ _ _ _ _ h => h) hs (fun ys e => by rw [e]; exact Nat.le_refl _) (fun _ _ => True) (fun _ _ _ _ _ _ _ _ _ => trivial) trivial (fun _ _ _ _ _ _ _ => trivial))
  have eq0 : ∀ W : World, (binOp .eql 60 (.func (.func 42) #[] #[.pointer (some ⟨w.heap.size, 0, none⟩)]) .nilFunc).run Try.prog W = .ok (.bool false) W := fun W => by kernel_rfl
  clear hs h
  go_enter Try.func18, Try.ntmps18
  go_wp2_with fail
  refine (all_any _ _).mono ?_
  rintro e w1 ⟨rfl, rfl⟩
  go_wp2_with fail
  refine C.out.mono ?_
  rintro e w2 ⟨a2, c2, ys, rfl, rfl, h2, hb2, _⟩
  replace h2 : Hid (OwnN .i64 w2 _ 3 a2 ys.length c2 ys) := h2
  clear C
  go_wp2
  go_ret2
  exact ⟨a2, c2, rfl, own_base h2.out hb1.size, btrans hb1 hb2⟩
end Go.Proofs.Ytfbddadnnpjjjaa
