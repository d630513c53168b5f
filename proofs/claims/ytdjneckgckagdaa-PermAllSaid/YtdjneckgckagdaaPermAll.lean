/- The iterators over all permutations. Conditions: few things. -/
import Derived.Test.YtdjneckgckagdaaPermUnrOwn
import Derived.Test.YtdjneckgckagdaaCollectL
namespace Go.Proofs.Ytdjneckgckagdaa
open Go.RowKit Go.Shelf
attribute [local go_sem] Oper.semAt_some

theorem range_snoc (n : Nat) : List.range (n + 1) = List.range n ++ [n] := List.range_succ
set_option maxHeartbeats 1000000 in
theorem ranks1_seq (Kp : World → World → Prop) (n : Int) (F Bp : Nat) (w : World) (h8 : n ≤ 8) (hF : Perm.factN n.toNat = (F : Int)) (hF2 : F ≤ 1000000) (hp : w.cell? ⟨Bp, 0, none⟩ = some (.int .i64 n)) :
    SeqO Try.prog 37 #[.pointer (some ⟨Bp, 0, none⟩)] (fun i : Nat => #[.int .i64 i]) (fun pre x _ => x = pre.length ∧ pre = List.range x) Kp (fun xs => xs = List.range F) (fun _ => True) F w := by
  intro l J Jx W hW oJ oJx hY h0
  have hc : W.cell? ⟨Bp, 0, none⟩ = some (.int .i64 n) := bcell hW hp
  have hL := many_any W n h8
  rw [hF] at hL
  replace hL := Lib.hid hL
  replace hY := Lib.hid hY
  have fl : Fence.wide.fn 31 := trivial
  clear oJ oJx hp hF
  refine (callsIn_wide (n := 5)).1 ?_
  refine callsIn_of_wp Try.func37 rfl trivial ?_ rfl
  simp only [Try.ntmps37, List.size_toArray, List.length_cons, List.length_nil, Nat.reduceAdd, Nat.reduceSub, Array.replicate_succ, Array.replicate_zero, List.push_toArray, List.append_toArray, List.nil_append, List.cons_append]
  gi_wp2_with (gi_at_call 31; refine (callsIn_wide.2 hL.out).mono ?_; rintro e w' ⟨rfl, rfl⟩)
  gi_loopw [6] (fun p wr => ∃ k : Nat, k ≤ F ∧ p = .int .i64 k ∧ J (List.range k) wr) (fun p _ => F - (intOf p).toNat)
  case atStart =>
    exact ⟨0, Nat.zero_le _, rfl, h0⟩
  case round =>
    obtain ⟨k, hk, rfl, hJ⟩ := hrel
    by_cases hlt : k < F
    · obtain ⟨fn, tmps, assign, body, hy, hR⟩ := yield_any (m' := 4) (hY.out (List.range k) k wr hJ (by simpa using hlt) ⟨by simp, rfl⟩)
      gi_wp2
      refine hR.mono ?_
      rintro e W3 (⟨rfl, hJ3, _⟩ | ⟨rfl, hJx3, _⟩)
      · gi_wp2
        go_roundw
        case rel => exact ⟨k + 1, by omega, by go_num, by rw [range_snoc]; exact hJ3⟩
        case measure => simp [intOf]; omega
      · gi_wp2
        refine bodyPost_ret (results_none rfl _ _ _) rfl ?_
        exact ⟨⟨_, rfl⟩, .inr ⟨_, trivial, hJx3⟩⟩
    · gi_wp2
      go_end0
      obtain rfl : k = F := by omega
      exact ⟨⟨_, rfl⟩, .inl ⟨_, rfl, hJ⟩⟩
theorem ranks_any (w : World) (n : Int) :
    Calls Try.prog 35 #[.int .i64 n] w fun e w' => e = .returned (.func (.func 37) #[] #[.pointer (some ⟨w.heap.size, 0, none⟩)]) ∧ w' = w.alloc (.cells #[.int .i64 n] 3) := by
  go_enter Try.func35, Try.ntmps35
  go_wp2
  go_ret
  exact ⟨rfl, rfl⟩
theorem all_any (w : World) (n : Int) :
    Calls Try.prog 26 #[.int .i64 n] w fun e w' => e = .returned (.func (.func 34) #[] #[.pointer (some ⟨w.heap.size, 0, none⟩)]) ∧ w' = w.alloc (.cells #[.int .i64 n] 3) := by
  go_enter Try.func26, Try.ntmps26
  go_wp2
  go_ret
  exact ⟨rfl, rfl⟩
abbrev AL : Type := Option Addr × Nat × Nat
/-- what comes is the permutation of that rank, in a row of its own -/
def Told (n : Int) (i : Nat) (x : AL) (W : World) : Prop := x.2.1 = (Perm.unrank n i).length ∧ OwnN .i64 W 0 3 x.1 x.2.1 x.2.2 (Perm.unrank n i)
def AdP (n : Int) (pre : List AL) (x : AL) (W : World) : Prop := Told n pre.length x W
abbrev KpP (n₀ : Nat) : World → World → Prop := KpT n₀ 37 22
theorem OwnN.kpt {n₀ : Nat} {W W' : World} {B n c : Nat} {a : Option Addr} {xs : List Int} (h : OwnN .i64 W B 3 a n c xs) (hk : KpP n₀ W W') : OwnN .i64 W' B 3 a n c xs := by
  unfold OwnN at h ⊢
  refine ⟨h.1, ?_⟩
  rcases h.2 with hn | ⟨g, cap', cur, hv, hg, hh, r⟩
  · exact .inl hn
  · exact .inr ⟨g, cap', cur, hv, hg, (hk.rows g cur _ (by decide) (by decide) hh).trans hh, r⟩
theorem OwnN.noncells {W W' : World} {row : Option Nat} {B n c : Nat} {a : Option Addr} {xs : List Int} (h : OwnN .i64 W B 3 a n c xs) (hg : W.grownBy W' row) (hr : ∀ r, row = some r → ∃ o : Obj, W.heap[r]? = some o ∧ o.isCells = false) : OwnN .i64 W' B 3 a n c xs := by
  unfold OwnN at h ⊢
  refine ⟨h.1, ?_⟩
  rcases h.2 with hn | ⟨g, cap', cur, hv, hgb, hh, r⟩
  · exact .inl hn
  · refine .inr ⟨g, cap', cur, hv, hgb, (hg.block g (Array.getElem?_eq_some_iff.1 hh).1 (fun e => ?_)).trans hh, r⟩
    obtain ⟨o, ho, hc⟩ := hr g e.symm
    rw [hh] at ho
    cases ho
    cases hc
/-- all that has come is still there -/
def AllAt (n : Int) (pre : List AL) (W : World) : Prop := ∀ i x, pre[i]? = some x → Told n i x W
theorem AllAt.snoc {n : Int} {n₀ : Nat} {pre : List AL} {x : AL} {W W' : World} (h : AllAt n pre W) (hx : AdP n pre x W) (hk : KpP n₀ W W') : AllAt n (pre ++ [x]) W' := by
  intro i y hy
  rcases Nat.lt_trichotomy i pre.length with h1 | h1 | h1
  · rw [List.getElem?_append_left h1] at hy
    exact ⟨(h i y hy).1, (h i y hy).2.kpt hk⟩
  · subst h1
    simp at hy
    subst hy
    exact ⟨hx.1, hx.2.kpt hk⟩
  · rw [List.getElem?_eq_none (by simp; omega)] at hy
    cases hy
theorem AllAt.own (n : Int) (B : Nat) : OwnFrom B (AllAt n) := fun s W W' row hs hg hr i x hx => ⟨(hs i x hx).1, (hs i x hx).2.noncells hg (fun r e => (hr r e).2)⟩
theorem AllAt.below {n : Int} {pre : List AL} {W W' : World} (h : AllAt n pre W) (hb : Below W.heap.size W W') : AllAt n pre W' := fun i x hx => ⟨(h i x hx).1, (h i x hx).2.below hb⟩
/-- out of bounds nothing comes -/
theorem all1_none (w : World) (Bp : Nat) (n : Int) (hn : n < 0 ∨ 8 < n) (hp : w.cell? ⟨Bp, 0, none⟩ = some (.int .i64 n)) (n₀ : Nat) :
    SeqO Try.prog 34 #[.pointer (some ⟨Bp, 0, none⟩)] (fun x : AL => #[.slice x.1 x.2.1 x.2.2]) (AdP n) (KpP n₀) (fun ys => ys = []) (fun _ => True) 0 w := by
  intro l J Jx W hW oJ oJx hY h0
  have hc : W.cell? ⟨Bp, 0, none⟩ = some (.int .i64 n) := bcell hW hp
  have hc1 : ∀ o, (W.alloc o).cell? ⟨Bp, 0, none⟩ = some (.int .i64 n) := fun o => bcell (balloc (Below.refl _ _) o) hc
  have hJ0 : Hid (J [] (W.alloc (.cells #[.func (.yield l) #[] #[]] 27))) := oJ.alloc _ h0
  clear hY oJ oJx
  refine (callsIn_wide (n := 9)).1 ?_
  refine callsIn_of_wp_marks Try.func34 rfl trivial ?_ rfl
  simp only [Try.ntmps34, List.size_toArray, List.length_cons, List.length_nil, Nat.reduceAdd, Nat.reduceSub, Array.replicate_succ, Array.replicate_zero, List.push_toArray, List.append_toArray, List.nil_append, List.cons_append]
  by_cases hlt : n < 0
  · have h1 : decide (n < 0) = true := by simpa using hlt
    gi_wp2
    refine ⟨_, results_none rfl _ _ _, ⟨_, rfl⟩, .inl ⟨_, rfl, hJ0.out⟩⟩
  · have h1 : decide (n < 0) = false := by simpa using hlt
    have h2 : decide (8 < n) = true := by simp; omega
    gi_wp2
    refine ⟨_, results_none rfl _ _ _, ⟨_, rfl⟩, .inl ⟨_, rfl, hJ0.out⟩⟩
theorem own_zero {W : World} {B n c : Nat} {a : Option Addr} {xs : List Int} (h : OwnN .i64 W B 3 a n c xs) : OwnN .i64 W 0 3 a n c xs := by
  unfold OwnN at h ⊢
  refine ⟨h.1, ?_⟩
  rcases h.2 with hn | ⟨g, cap', cur, hv, hgb, r⟩
  · exact .inl hn
  · exact .inr ⟨g, cap', cur, hv, Nat.zero_le _, r⟩
theorem ownFrom_step {β : Type} {B : Nat} {I : β → World → Prop} {s : β} {W W' : World} (h : OwnFrom B I) (hs : I s W) (hb : Below W.heap.size W W') : I s W' :=
  h s W W' none hs ⟨hb.os, hb.tape, hb.output, hb.size, fun k hk _ => hb.block k hk⟩ (fun r e => by cases e)
theorem keepsFrom_below {B : Nat} {W W' : World} (hb : Below W.heap.size W W') : KeepsFrom B W W' := ⟨hb.size, fun k o _ hk _ => (hb.block k (Array.getElem?_eq_some_iff.1 hk).1).trans hk⟩
theorem boxed_below {W W' : World} {b t : Nat} {v : Value} (h : Boxed W b t v) (hb : Below W.heap.size W W') : Boxed W' b t v := (hb.block b h.lt).trans h
set_option maxHeartbeats 8000000 in
theorem all1_seq (w : World) (N F Bp : Nat) (h8 : N ≤ 8) (hF : Perm.factN N = (F : Int)) (hF2 : F ≤ 1000000) (hp : w.cell? ⟨Bp, 0, none⟩ = some (.int .i64 N)) :
    SeqO Try.prog 34 #[.pointer (some ⟨Bp, 0, none⟩)] (fun x : AL => #[.slice x.1 x.2.1 x.2.2]) (AdP N) (KpP w.heap.size) (fun ys => ys.length = F) (fun _ => True) F w := by
  intro l J Jx W hW oJ oJx hY h0
  have hc : W.cell? ⟨Bp, 0, none⟩ = some (.int .i64 N) := bcell hW hp
  have hc1 : ∀ o, (W.alloc o).cell? ⟨Bp, 0, none⟩ = some (.int .i64 N) := fun o => bcell (balloc (Below.refl _ _) o) hc
  replace hY := Lib.hid hY
  replace hF := Lib.hid hF
  have fl : Fence.wide.fn 35 := trivial
  have h1 : decide ((8 : Int) < (N : Int)) = false := by simp; omega
  refine (callsIn_wide (n := 9)).1 ?_
  refine callsIn_of_wp_marks Try.func34 rfl trivial ?_ rfl
  simp only [Try.ntmps34, List.size_toArray, List.length_cons, List.length_nil, Nat.reduceAdd, Nat.reduceSub, Array.replicate_succ, Array.replicate_zero, List.push_toArray, List.append_toArray, List.nil_append, List.cons_append]
  gi_wp2_with (gi_at_call 35; refine (callsIn_wide.2 (ranks_any _ _)).mono ?_; rintro e w' ⟨rfl, rfl⟩)
  obtain ⟨W0, hW0⟩ : ∃ W0, (W.alloc (.cells #[.func (.yield l) #[] #[]] 27)).alloc (.cells #[.int .i64 N] 3) = W0 := ⟨_, rfl⟩
  have hz : W0.heap.size = W.heap.size + 2 := by rw [← hW0]; simp
  have hB0 : Below W.heap.size W W0 := by rw [← hW0]; exact balloc (balloc (Below.refl _ _) _) _
  have hb0 : Below w.heap.size w W0 := btrans hW hB0
  have hx0 : Boxed W0 W.heap.size 27 (.func (.yield l) #[] #[]) := by rw [← hW0]; exact (Boxed.new W _ _).alloc _
  have hp0 : W0.cell? ⟨W.heap.size + 1, 0, none⟩ = some (.int .i64 N) := by rw [← hW0, World.cell?_alloc_at _ _ _ _ (by simp)]; rfl
  have hJ0 : J [] W0 := by rw [← hW0]; exact oJ.alloc _ (oJ.alloc _ h0)
  rw [hW0]
  clear hW0
  refine wp_rangeO (m := 9) (gf := 37) (lb := #[.pointer (some ⟨W.heap.size + 1, 0, none⟩)]) rfl (enters_of Try.func37 (by kernel_rfl) rfl)
    (ranks1_seq (fun _ _ => True) N F (W.heap.size + 1) W0 (by omega) (by rw [Int.toNat_natCast]; exact hF.out) hF2 hp0) (fun _ _ => trivial) (fun _ _ _ _ _ _ _ _ => trivial) (Below.refl _ _) (fun _ => rfl)
    (fun pre W' => ∃ ps : List AL, ps.length = pre.length ∧ J ps W' ∧ Boxed W' W.heap.size 27 (.func (.yield l) #[] #[]) ∧ Below w.heap.size w W')
    (fun cd pre W' => cd = .ret ∧ ∃ ps : List AL, Jx ps W')
    ?hI ?hIx ⟨[], rfl, hJ0, hx0, hb0⟩
    (fun x => { tmps := #[.func (.yield l) #[] #[], .pointer (some ⟨Bp, 0, none⟩), .pointer (some ⟨W.heap.size, 0, none⟩), .int .i64 x, .int .i64 N, .bool false, .bool false, .int .i64 N, .bool false, .bool false, .int .i64 N, .func (.func 37) #[] #[.pointer (some ⟨W.heap.size + 1, 0, none⟩)], .int .i64 x, undef, undef, undef, undef, undef, undef], defers := [] }) ?assign ?hAd ?body ?done ?stop
  case hI =>
    rintro s A B' row ⟨ps, h0, h1, h2, h3⟩ hg hr
    refine ⟨ps, h0, ownFrom_mono oJ (by omega) _ A B' row h1 hg hr, h2.kept hg (fun e => ?_), h3.grown hg h3.size (fun k e => ?_)⟩
    · have := (hr _ e.symm).1
      omega
    · have := (hr _ e).1
      have := hb0.size
      omega
  case hIx =>
    rintro cd s A B' row ⟨h1, ps, h2⟩ hg hr
    exact ⟨h1, ps, ownFrom_mono oJx (by omega) _ A B' row h2 hg hr⟩
  case assign =>
    intro l' x W1 K hK
    gi_wp2
    exact hK
  case hAd => exact fun _ _ _ _ _ _ _ _ _ h => h
  case body =>
    rintro l' pre x W1 ⟨ps, hpl, hj, hbx, hbl⟩ hlt ⟨hx, hpre⟩
    have hxF : x < F := by omega
    have U := Lib.hid (unrank_own W1.drew N x (by omega))
    have cb := hbx.cell
    have cp : W1.cell? ⟨Bp, 0, none⟩ = some (.int .i64 N) := bcell hbl hp
    have hm : Try.prog.follows .mixedOrders = true := by kernel_rfl
    have fu : Fence.wide.fn 22 := trivial
    have step : ∀ W2 a2 c2, OwnN .i64 W2 W1.drew.heap.size 3 a2 (Perm.unrank N x).length c2 (Perm.unrank N x) → Below W1.drew.heap.size W1.drew W2 →
        W2.cell? ⟨W.heap.size, 0, none⟩ = some (.func (.yield l) #[] #[]) ∧ W2.cell? ⟨Bp, 0, none⟩ = some (.int .i64 N) ∧ YieldAt Fence.wide 8 Try.prog l #[.slice a2 (Perm.unrank N x).length c2] W2 (Word W.heap.size (KpP w.heap.size) J Jx (ps ++ [(a2, (Perm.unrank N x).length, c2)]) W2) := fun W2 a2 c2 ho2 hb2 =>
      ⟨bcell (w1 := W2) (W := W1.drew) hb2 cb, bcell (w1 := W2) (W := W1.drew) hb2 cp,
        yield_any (hY.out ps (a2, (Perm.unrank N x).length, c2) W2 (ownFrom_step oJ (own_drew oJ hj) hb2) (by omega) ⟨by show _ = _; rw [hpl, ← hx], by show OwnN .i64 W2 0 _ _ _ _ (Perm.unrank N ps.length); rw [hpl, ← hx]; exact own_zero ho2⟩)⟩
    have fin1 : ∀ W2 W3 x2, Below W1.drew.heap.size W1.drew W2 → J (ps ++ [x2]) W3 → KpP w.heap.size W2 W3 → KeepsFrom W.heap.size W2 W3 →
        KeepsFrom W0.heap.size W1 W3 ∧ True ∧ (∃ ps' : List AL, ps'.length = (pre ++ [x]).length ∧ J ps' W3 ∧ Boxed W3 W.heap.size 27 (.func (.yield l) #[] #[]) ∧ Below w.heap.size w W3) := fun W2 W3 x2 hb2 g1 g2 g3 =>
      ⟨((keepsFrom_drew _ _).trans (keepsFrom_below hb2)).trans (keepsFrom_mono g3 (by omega)), trivial, ps ++ [x2], by simp [hpl], g1, g2.box (boxed_below (W := W1.drew) hbx hb2) (by decide) (by decide), hbl.trans (((⟨rfl, rfl, rfl, Nat.le_refl _, fun _ _ => rfl⟩ : Below w.heap.size W1 W1.drew).trans (hb2.mono hbl.size)).trans g2.below)⟩
    have fin2 : ∀ W2 W3 x2, Below W1.drew.heap.size W1.drew W2 → Jx (ps ++ [x2]) W3 → KeepsFrom W.heap.size W2 W3 → KeepsFrom W0.heap.size W1 W3 ∧ (∃ ps' : List AL, Jx ps' W3) := fun W2 W3 x2 hb2 g1 g3 =>
      ⟨((keepsFrom_drew _ _).trans (keepsFrom_below hb2)).trans (keepsFrom_mono g3 (by omega)), _, g1⟩
    replace step := Lib.hid step
    replace fin1 := Lib.hid fin1
    replace fin2 := Lib.hid fin2
    replace hz := Lib.hid hz
    replace hx := Lib.hid hx
    replace hpre := Lib.hid hpre
    replace hpl := Lib.hid hpl
    clear hp hY hlt oJ oJx hj hJ0 hp0 hx0 h0 hF2 hxF
    gi_wp2
    gi_region_with_o (first
      | (refine (round_in l' hR').mono ?_; rintro e W3 ⟨bb, rfl, hv⟩)
      | (gi_at_call 22; refine (CallsIn.inRound l' (callsIn_wide.2 U.out)).mono ?_; rintro e W2 ⟨a2, c2, rfl, ho2, hb2⟩; obtain ⟨cb2, cp2, fn, tmps, assign, body, hy, hR⟩ := step.out W2 a2 c2 ho2 hb2; have hR' := hR.mono (fun e w' h => h.bool); clear hR))
    all_goals
      rcases hv.out with ⟨rfl, hJ3, hk3, hf3⟩ | ⟨rfl, hJ3, hf3⟩
      · gi_wp2
        exact fin1.out W2 W3 _ hb2 hJ3 hk3 hf3
      · gi_wp2
        exact ⟨(fin2.out W2 W3 _ hb2 hJ3 hf3).1, rfl, (fin2.out W2 W3 _ hb2 hJ3 hf3).2⟩
  case done =>
    rintro D ys W1 hD rfl ⟨ps, hpl, hj, hbx, hbl⟩ hK
    gi_wp2
    refine ⟨by simp, .inl ⟨_, _, rfl, run_takeDeferred hK, ?_⟩⟩
    refine ⟨_, results_none rfl _ _ _, ⟨_, rfl⟩, .inl ⟨ps, by show ps.length = F; rw [hpl]; simp, oJ.putObj _ hj (by omega) hK rfl⟩⟩
  case stop =>
    rintro D cd pre W1 hD _ ⟨rfl, ps, hj⟩ hK
    gi_wp2
    refine ⟨by simp, .inl ⟨_, _, rfl, run_takeDeferred hK, ?_⟩⟩
    exact ⟨_, results_none rfl _ _ _, ⟨_, rfl⟩, .inr ⟨_, trivial, oJx.putObj _ hj (by omega) hK rfl⟩⟩
end Go.Proofs.Ytdjneckgckagdaa
