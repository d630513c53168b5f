/- A queue's two iterators: places, All. No conditions. -/
import Derived.Test.YtfbddadnnpjjjaaRing
import Derived.Test.YtfbddadnnpjjjaaSeq
namespace Go.Proofs.Ytfbddadnnpjjjaa
open Go.RowKit Go.Shelf
attribute [local go_sem] Oper.semAt_some

def nth (xs : List Int) (i : Nat) : Int := xs.getD i 0
theorem map_getD (xs : List Int) : (List.range xs.length).map (nth xs) = xs := by
  apply List.ext_getElem
  · simp
  · intro i h1 h2
    simp [nth, List.getD, h2]
theorem range_snoc (n : Nat) : List.range (n + 1) = List.range n ++ [n] := List.range_succ
set_option maxHeartbeats 1000000 in
theorem places1_seq (Kp : World → World → Prop) (n Bp : Nat) (pv : Value) (w : World) (hn : (n : Int) ≤ 1000000) (hp : w.cell? ⟨Bp, 0, none⟩ = some pv)
    (hl : ∀ W, Below w.heap.size w W → Calls Try.prog 19 #[pv] W fun e w' => e = .returned (.int .i64 n) ∧ W = w') :
    SeqO Try.prog 48 #[.pointer (some ⟨Bp, 0, none⟩)] (fun i : Nat => #[.int .i64 i]) (fun pre x _ => x = pre.length ∧ pre = List.range x) Kp (fun xs => xs = List.range n) (fun _ => True) n w := by
  intro l J Jx W hW oJ oJx hY h0
  have hc : W.cell? ⟨Bp, 0, none⟩ = some pv := bcell hW hp
  have hL := Lib.hid (hl W hW)
  have hY := Lib.hid hY
  clear oJ oJx hp
  have fl : Fence.wide.fn 19 := trivial
  refine (callsIn_wide (n := 5)).1 ?_
  refine callsIn_of_wp Try.func48 rfl trivial ?_ rfl
  simp only [Try.ntmps48, List.size_toArray, List.length_cons, List.length_nil, Nat.reduceAdd, Nat.reduceSub, Array.replicate_succ, Array.replicate_zero, List.push_toArray, List.append_toArray, List.nil_append, List.cons_append]
  gi_wp2_with (gi_at_call 19; refine (callsIn_wide.2 hL.out).mono ?_; rintro e w' ⟨rfl, rfl⟩)
  gi_loopw [6] (fun p wr => ∃ k : Nat, k ≤ n ∧ p = .int .i64 k ∧ J (List.range k) wr) (fun p _ => n - (intOf p).toNat)
  case atStart =>
    exact ⟨0, Nat.zero_le _, rfl, h0⟩
  case round =>
    obtain ⟨k, hk, rfl, hJ⟩ := hrel
    by_cases hlt : k < n
    · obtain ⟨fn, tmps, assign, body, hy, hR⟩ := yield_any (m' := 4) (hY.out (List.range k) k wr hJ (by simpa using hlt) ⟨by simp, rfl⟩)
      gi_wp2
      refine hR.mono ?_
      rintro e W3 (⟨rfl, hJ3, _⟩ | ⟨rfl, hJx3, _⟩)
      · gi_wp2
        go_roundw
        case rel => exact ⟨k + 1, by omega, by go_num, by rw [range_snoc]; exact hJ3⟩
        case measure => simp [intOf]; omega
      · gi_wp2
        refine bodyPost_ret (results_none rfl _ _ _) rfl ?_
        exact ⟨⟨_, rfl⟩, .inr ⟨_, trivial, hJx3⟩⟩
    · gi_wp2
      go_end0
      obtain rfl : k = n := by omega
      exact ⟨⟨_, rfl⟩, .inl ⟨_, rfl, hJ⟩⟩

theorem places_any (w : World) (pv : Option Addr) :
    Calls Try.prog 43 #[.pointer pv] w fun e w' => e = .returned (.func (.func 48) #[] #[.pointer (some ⟨w.heap.size, 0, none⟩)]) ∧ w' = w.alloc (.cells #[.pointer pv] 24) := by
  go_enter Try.func43, Try.ntmps43
  go_wp2
  go_ret
  exact ⟨rfl, rfl⟩
set_option maxHeartbeats 8000000 in
theorem all1_seq (w : World) (B q Bp : Nat) (m : Int) (a : Option Addr) (c : Nat) (xs : List Int) (h : QAt w B q m a c xs) (hn : (xs.length : Int) ≤ 1000000) (hp : w.cell? ⟨Bp, 0, none⟩ = some (.pointer (some ⟨q, 0, none⟩))) :
    SeqO Try.prog 42 #[.pointer (some ⟨Bp, 0, none⟩)] (fun x : Int => #[.int .i64 x]) (fun _ _ _ => True) (KpT w.heap.size 26 3) (fun ys => ys = xs) (fun _ => True) xs.length w := by
  intro l J Jx W hW oJ oJx hY h0
  have hc : W.cell? ⟨Bp, 0, none⟩ = some (.pointer (some ⟨q, 0, none⟩)) := bcell hW hp
  have hc1 : ∀ o, (W.alloc o).cell? ⟨Bp, 0, none⟩ = some (.pointer (some ⟨q, 0, none⟩)) := fun o => bcell (balloc (Below.refl _ _) o) hc
  replace hY := Lib.hid hY
  have fl : Fence.wide.fn 43 := trivial
  refine (callsIn_wide (n := 9)).1 ?_
  refine callsIn_of_wp_marks Try.func42 rfl trivial ?_ rfl
  simp only [Try.ntmps42, List.size_toArray, List.length_cons, List.length_nil, Nat.reduceAdd, Nat.reduceSub, Array.replicate_succ, Array.replicate_zero, List.push_toArray, List.append_toArray, List.nil_append, List.cons_append]
  gi_wp2_with (gi_at_call 43; refine (callsIn_wide.2 (places_any _ _)).mono ?_; rintro e w' ⟨rfl, rfl⟩)
  obtain ⟨W0, hW0⟩ : ∃ W0, (W.alloc (.cells #[.func (.yield l) #[] #[]] 31)).alloc (.cells #[.pointer (some ⟨q, 0, none⟩)] 24) = W0 := ⟨_, rfl⟩
  have hz : W0.heap.size = W.heap.size + 2 := by rw [← hW0]; simp
  have hB0 : Below W.heap.size W W0 := by rw [← hW0]; exact balloc (balloc (Below.refl _ _) _) _
  have hb0 : Below w.heap.size w W0 := btrans hW hB0
  have hx0 : Boxed W0 W.heap.size 31 (.func (.yield l) #[] #[]) := by rw [← hW0]; exact (Boxed.new W _ _).alloc _
  have hp0 : W0.cell? ⟨W.heap.size + 1, 0, none⟩ = some (.pointer (some ⟨q, 0, none⟩)) := by rw [← hW0, World.cell?_alloc_at _ _ _ _ (by simp)]; rfl
  have hJ0 : J [] W0 := by rw [← hW0]; exact oJ.alloc _ (oJ.alloc _ h0)
  rw [hW0]
  clear hW0
  have hlen : ∀ W1, Below W0.heap.size W0 W1 → Calls Try.prog 19 #[.pointer (some ⟨q, 0, none⟩)] W1 fun e w' => e = .returned (.int .i64 xs.length) ∧ W1 = w' := fun W1 h1 => len_any W1 B q m a c xs (h.below (btrans hb0 h1))
  refine wp_rangeO (m := 9) (gf := 48) (lb := #[.pointer (some ⟨W.heap.size + 1, 0, none⟩)]) rfl (enters_of Try.func48 (by kernel_rfl) rfl)
    (places1_seq (fun _ _ => True) xs.length (W.heap.size + 1) _ W0 hn hp0 hlen) (fun _ _ => trivial) (fun _ _ _ _ _ _ _ _ => trivial) (Below.refl _ _) (fun _ => rfl)
    (fun pre W' => J (pre.map (nth xs)) W' ∧ Boxed W' W.heap.size 31 (.func (.yield l) #[] #[]) ∧ Below w.heap.size w W')
    (fun cd pre W' => cd = .ret ∧ Jx (pre.map (nth xs)) W')
    ?hI ?hIx ⟨hJ0, hx0, hb0⟩
    (fun x => { tmps := #[.func (.yield l) #[] #[], .pointer (some ⟨Bp, 0, none⟩), .pointer (some ⟨W.heap.size, 0, none⟩), .int .i64 x, .pointer (some ⟨q, 0, none⟩), .func (.func 48) #[] #[.pointer (some ⟨W.heap.size + 1, 0, none⟩)], .int .i64 x, undef, undef, undef, undef, undef, undef, undef, undef, undef, undef], defers := [] }) ?assign ?hAd ?body ?done ?stop
  case hI =>
    rintro s A B' row ⟨h1, h2, h3⟩ hg hr
    refine ⟨ownFrom_mono oJ (by omega) _ A B' row h1 hg hr, h2.kept hg (fun e => ?_), h3.grown hg h3.size (fun k e => ?_)⟩
    · have := (hr _ e.symm).1
      omega
    · have := (hr _ e).1
      have := hb0.size
      omega
  case hIx =>
    rintro cd s A B' row ⟨h1, h2⟩ hg hr
    exact ⟨h1, ownFrom_mono oJx (by omega) _ A B' row h2 hg hr⟩
  case assign =>
    intro l' x W1 K hK
    gi_wp2
    exact hK
  case hAd => exact fun _ _ _ _ _ _ _ _ _ h => h
  case body =>
    rintro l' pre x W1 ⟨hj, hbx, hbl⟩ hlt ⟨hx, hpre⟩
    have hq : QAt W1 B q m a c xs := h.below hbl
    have hxl : x < xs.length := by omega
    obtain ⟨fn, tmps, assign, body, hy, hR⟩ := yield_any (m' := 8) (hY.out (pre.map (nth xs)) (nth xs x) W1.drew (own_drew oJ hj) (by simpa using hlt) trivial)
    have c2 : W1.cell? ⟨q, 2, none⟩ = some (.slice a xs.length c) := hq.box.cell 2
    have cb := hbx.cell
    have cp : W1.cell? ⟨Bp, 0, none⟩ = some (.pointer (some ⟨q, 0, none⟩)) := bcell hbl hp
    obtain ⟨b, off, y, rfl, cy, (hy2 : Hid (y = nth xs x))⟩ := (NumsAt.of_owns hq.own).at x hxl
    rw [← hy2.out] at hy hR
    have hR' := hR.mono (fun e w' h => h.bool)
    clear hR
    have hm : Try.prog.follows .mixedOrders = true := by kernel_rfl
    have fin1 : ∀ W3, J ((pre.map (nth xs)) ++ [y]) W3 → KpT w.heap.size 26 3 W1.drew W3 → KeepsFrom W.heap.size W1.drew W3 →
        KeepsFrom W0.heap.size W1 W3 ∧ True ∧ (J ((pre ++ [x]).map (nth xs)) W3 ∧ Boxed W3 W.heap.size 31 (.func (.yield l) #[] #[]) ∧ Below w.heap.size w W3) := fun W3 g1 g2 g3 =>
      ⟨(keepsFrom_drew _ _).trans (keepsFrom_mono g3 (by omega)), trivial, by rw [List.map_append, List.map_cons, List.map_nil, ← hy2.out]; exact g1, g2.box (W := W1.drew) hbx (by decide) (by decide), hbl.trans ((⟨rfl, rfl, rfl, Nat.le_refl _, fun _ _ => rfl⟩ : Below w.heap.size W1 W1.drew).trans g2.below)⟩
    have fin2 : ∀ W3, Jx ((pre.map (nth xs)) ++ [y]) W3 → KeepsFrom W.heap.size W1.drew W3 → KeepsFrom W0.heap.size W1 W3 ∧ (Code.ret = .ret ∧ Jx ((pre ++ [x]).map (nth xs)) W3) := fun W3 g1 g3 =>
      ⟨(keepsFrom_drew _ _).trans (keepsFrom_mono g3 (by omega)), rfl, by rw [List.map_append, List.map_cons, List.map_nil, ← hy2.out]; exact g1⟩
    replace fin1 := Lib.hid fin1
    replace fin2 := Lib.hid fin2
    replace hz := Lib.hid hz
    replace hx := Lib.hid hx
    replace hpre := Lib.hid hpre
    replace hy2 := Lib.hid hy2
    clear h hp hq hY hlt hn hlen oJ oJx
    gi_wp2
    gi_region_with_o (refine (round_in l' hR').mono ?_; rintro e W3 ⟨bb, rfl, hv⟩)
    all_goals
      rcases hv.out with ⟨rfl, hJ3, hk3, hf3⟩ | ⟨rfl, hJ3, hf3⟩
      · gi_wp2
        exact fin1.out W3 hJ3 hk3 hf3
      · gi_wp2
        exact ⟨(fin2.out W3 hJ3 hf3).1, rfl, (fin2.out W3 hJ3 hf3).2.2⟩
  case done =>
    rintro D ys W1 hD rfl ⟨hj, hbx, hbl⟩ hK
    gi_wp2
    refine ⟨by simp, .inl ⟨_, _, rfl, run_takeDeferred hK, ?_⟩⟩
    refine ⟨_, results_none rfl _ _ _, ⟨_, rfl⟩, .inl ⟨_, rfl, ?_⟩⟩
    rw [map_getD] at hj
    exact oJ.putObj _ hj (by omega) hK rfl
  case stop =>
    rintro D cd pre W1 hD _ ⟨rfl, hj⟩ hK
    gi_wp2
    refine ⟨by simp, .inl ⟨_, _, rfl, run_takeDeferred hK, ?_⟩⟩
    exact ⟨_, results_none rfl _ _ _, ⟨_, rfl⟩, .inr ⟨_, trivial, oJx.putObj _ hj (by omega) hK rfl⟩⟩
end Go.Proofs.Ytfbddadnnpjjjaa
