/- slices.AppendSeq and slices.Collect over an iterator that keeps books of its own, at []int. Conditions: the bound on an append. -/
import Derived.Test.YtdjneckgckagdaaSeq
import Derived.Test.YtdjneckgckagdaaMem
namespace Go.Proofs.Ytdjneckgckagdaa
open Go.RowKit Go.Shelf
attribute [local go_sem] Oper.semAt_some

abbrev encL (x : Option Addr × Nat × Nat) : Value := .slice x.1 x.2.1 x.2.2
theorem infoL : (Try.prog.info? 22).map (fun i => (i.zero, i.size, i.bytes)) = some (some (.slice none 0 0), 1, 24) := by kernel_rfl
set_option maxHeartbeats 4000000 in
theorem appendSeqL (w : World) (n₀ gf : Nat) (lb : Array Value) (Ad : List (Option Addr × Nat × Nat) → Option Addr × Nat × Nat → World → Prop) (S Sp : List (Option Addr × Nat × Nat) → Prop) (N : Nat) (hn : n₀ ≤ w.heap.size) (hN : N ≤ 1000000) (eg : ∀ args w, (callFunc gf args).run Try.prog w = .ok (.enter gf args) w)
    (hAd : ∀ (W : World) (l : Nat) (o o' : Obj) pre x, W.heap[l]? = some o → o.isCells = false → Ad pre x W → Ad pre x (W.putObj l o'))
    (hseq : SeqO Try.prog gf lb (fun x : Option Addr × Nat × Nat => #[.slice x.1 x.2.1 x.2.2]) Ad (KpT n₀ 37 22) S Sp N w) (hlen : ∀ xs, S xs → xs.length ≤ N) (X : List (Option Addr × Nat × Nat) → World → Prop) (hX : ∀ B, w.heap.size ≤ B → OwnFrom B X) (hX0 : X [] w) (hXp : ∀ pre x W W', X pre W → Ad pre x W → KpT n₀ 37 22 W W' → X (pre ++ [x]) W') :
    Calls Try.prog 36 #[.slice none 0 0, .func (.func gf) #[] lb] w fun e w' => ∃ a c xs, e = .returned (.slice a xs.length c) ∧ S xs ∧ w'.ownsRow w.heap.size 22 1 (.slice a xs.length c) xs.length (xs.map encL) ∧ Below w.heap.size w w' ∧ X xs w' := by
  replace hseq := Lib.hid hseq
  replace hX0 := Lib.hid hX0
  replace hXp := Lib.hid hXp
  replace hX := Lib.hid hX
  replace hlen := Lib.hid hlen
  replace hAd := Lib.hid hAd
  refine (callsIn_wide (n := 9)).1 ?_
  refine callsIn_of_wp_marks Try.func36 rfl trivial ?_ rfl
  simp only [Try.ntmps36, List.size_toArray, List.length_cons, List.length_nil, Nat.reduceAdd, Nat.reduceSub, Array.replicate_succ, Array.replicate_zero, List.push_toArray, List.append_toArray, List.nil_append, List.cons_append]
  gi_wp2
  obtain ⟨W0, hW0⟩ : ∃ W0, w.alloc (.cells #[.slice none 0 0] 37) = W0 := ⟨_, rfl⟩
  have hz : W0.heap.size = w.heap.size + 1 := by rw [← hW0]; simp
  have hb0 : Below w.heap.size w W0 := by rw [← hW0]; exact balloc (Below.refl _ _) _
  have hx0 : Boxed W0 w.heap.size 37 (.slice none 0 0) := by rw [← hW0]; exact Boxed.new _ _ _
  have hX1 : X [] W0 := by rw [← hW0]; exact OwnFrom.alloc (hX.out _ (Nat.le_refl _)) _ hX0.out
  rw [hW0]
  clear hW0
  obtain ⟨i0, hi, hz0, hz1, hz2⟩ := info_parts infoL
  refine wp_rangeO (m := 9) (gf := gf) (lb := lb) rfl eg (hseq.out.later hb0) (fun h k => h.trans k) (fun W l o o' hl h ho _ => KpT.put o' (by omega) h ho) (Below.refl _ _) (fun _ => rfl)
    (fun pre W => (∃ v, Boxed W w.heap.size 37 v ∧ W.ownsRow w.heap.size 22 1 v pre.length (pre.map encL)) ∧ Below w.heap.size w W ∧ X pre W)
    (fun _ _ _ => False)
    ?hI (fun _ _ _ _ _ h _ _ => h) ⟨⟨_, hx0, World.ownsRow_nil _ _ _ _⟩, hb0, hX1⟩
    (fun x => { tmps := #[.slice none 0 0, .func (.func gf) #[] lb, .pointer (some ⟨w.heap.size, 0, none⟩), undef, .slice none 0 0, .slice x.1 x.2.1 x.2.2, .func (.func gf) #[] lb, .slice x.1 x.2.1 x.2.2, undef, undef, undef, undef, undef], defers := [] }) ?assign ?hAd ?body ?done ?stop
  case hI =>
    rintro s A B' row ⟨⟨v, hv, hr⟩, h3, hx⟩ hg hr'
    have h := holdsRow_own (β := List (Option Addr × Nat × Nat)) w.heap.size w.heap.size 37 22 1 List.length (List.map encL) (fun _ _ => True) s A B' row ⟨v, hv, hr, trivial⟩ hg (fun r e => (hr' r e).2)
    obtain ⟨v', h1, h2, _⟩ := h
    exact ⟨⟨v', h1, h2⟩, h3.grown hg h3.size (fun k e => by have := (hr' _ e).1; omega), hX.out _ (by omega) s A B' row hx hg hr'⟩
  case assign =>
    intro l' x W1 K hK
    gi_wp2
    exact hK
  case hAd => exact fun W l o o' pre x _ h ho => hAd.out W l o o' pre x h ho
  case body =>
    rintro l' pre x W ⟨⟨v, hv, hrow⟩, hB, hx⟩ hlt had
    have hvc := hv.cell
    have hsz := hB.size
    have hl1 : pre.length + 1 ≤ maxLen := by unfold maxLen; omega
    have hl2 : (pre.length + 1) * 24 ≤ 140737488355328 := by omega
    have hne : 37 ≠ (22 : TypeId) := by decide
    have hXp2 := Lib.hid (fun W' (h : KpT n₀ 37 22 W W') => hXp.out pre x W W' hx had h)
    clear hx had hseq hX hlen hAd hXp hX0 hX1
    gi_wp2_with (gi_at_builtin; refine wpListIn_append_own _ rfl _ _ 37 rfl w.heap.size 22 i0 (.slice none 0 0) 1 24 Try.underlying37 hi hz0 hz1 hz2 rfl (by decide) _ _ _ rfl (hrow.alloc _) ⟨W.heap.size, 0, none⟩ 1 1 [encL x] rfl rfl (cell_one_new _ _ _) (by simp [Value.oneCell']) hl1 hl2 (by simp; omega) ?_; intro v' w1 hown' hgrow0 _; have hgrow : (W.alloc (.cells #[.slice x.1 x.2.1 x.2.2] 22)).grownBy w1 v.ownBlock := hgrow0; clear hgrow0; obtain ⟨g', cap', rfl⟩ := ownsRow_succ hown'; obtain ⟨hv1, hv2, hr2, hk2, hb2⟩ := hv.appended hne hrow hB.size (Nat.le_refl _) hown' hgrow; have hc1 := hv1.cell; have hf1 := hv1.frozen)
    have hkp : KpT n₀ 37 22 W (w1.setCell ⟨w.heap.size, 0, none⟩ (.slice (some ⟨g', 0, none⟩) (pre.length + 1) cap')) := by
      refine ⟨hb2.mono hn, fun k c t h1 h2 hk => ?_⟩
      have hkl := (Array.getElem?_eq_some_iff.1 hk).1
      refine (Below.heap_setCell _ _ _ k (fun e => ?_)).trans ((hgrow.block k (by simp; omega) (fun e => ?_)).trans (Below.heap_alloc _ _ k hkl))
      · have e' : k = w.heap.size := e
        subst e'
        have h3 := hv
        unfold Boxed at h3
        rw [hk] at h3
        cases h3
        exact h1 rfl
      · rcases hrow.2 with ⟨rfl, _⟩ | ⟨g, cap, cur, rfl, _, hgb, _⟩
        · simp [Value.ownBlock] at e
        · obtain rfl : k = g := by simpa [Value.ownBlock] using e
          rw [hk] at hgb
          cases hgb
          exact h2 rfl
    exact ⟨hk2.from _, hkp, ⟨_, hv2, by simpa using hr2⟩, hB.trans hb2, hXp2.out _ hkp⟩
  case done =>
    rintro D ys W hD hS ⟨⟨v, hv, hrow⟩, hB, hx⟩ hK
    obtain ⟨a, c, rfl⟩ := own_form hrow
    have hvc := hv.cell
    gi_wp2
    refine ⟨by simp, .inl ⟨_, _, rfl, run_takeDeferred hK, ?_⟩⟩
    exact ⟨_, results_tmp rfl _ _ _, a, c, ys, rfl, hS, ownsRow_putObj hrow _ hK rfl, hB.trans (KpT.put (T1 := 0) (T2 := 0) _ (by omega) hK rfl).below, (hX.out _ (Nat.le_refl _)).putObj _ hx (by omega) hK rfl⟩
  case stop =>
    rintro D c pre W hD _ h _
    exact h.elim
set_option maxHeartbeats 1000000 in
theorem collectL (w : World) (n₀ gf : Nat) (lb : Array Value) (Ad : List (Option Addr × Nat × Nat) → Option Addr × Nat × Nat → World → Prop) (S Sp : List (Option Addr × Nat × Nat) → Prop) (N : Nat) (hn : n₀ ≤ w.heap.size) (hN : N ≤ 1000000) (eg : ∀ args w, (callFunc gf args).run Try.prog w = .ok (.enter gf args) w)
    (hAd : ∀ (W : World) (l : Nat) (o o' : Obj) pre x, W.heap[l]? = some o → o.isCells = false → Ad pre x W → Ad pre x (W.putObj l o'))
    (hseq : SeqO Try.prog gf lb (fun x : Option Addr × Nat × Nat => #[.slice x.1 x.2.1 x.2.2]) Ad (KpT n₀ 37 22) S Sp N w) (hlen : ∀ xs, S xs → xs.length ≤ N) (X : List (Option Addr × Nat × Nat) → World → Prop) (hX : ∀ B, w.heap.size ≤ B → OwnFrom B X) (hX0 : X [] w) (hXp : ∀ pre x W W', X pre W → Ad pre x W → KpT n₀ 37 22 W W' → X (pre ++ [x]) W') :
    Calls Try.prog 27 #[.func (.func gf) #[] lb] w fun e w' => ∃ a c xs, e = .returned (.slice a xs.length c) ∧ S xs ∧ w'.ownsRow w.heap.size 22 1 (.slice a xs.length c) xs.length (xs.map encL) ∧ Below w.heap.size w w' ∧ X xs w' := by
  have H := Lib.hid (appendSeqL w n₀ gf lb Ad S Sp N hn hN eg hAd hseq hlen X hX hX0 hXp)
  clear hseq hAd hlen hX hX0 hXp eg
  go_enter Try.func27, Try.ntmps27
  go_wp2_with fail
  refine H.out.mono ?_
  rintro e w1 ⟨a, c, xs, rfl, h1, h2, h3, h4⟩
  replace h1 := Lib.hid h1
  replace h2 := Lib.hid h2
  replace h4 := Lib.hid h4
  go_wp2
  go_ret
  exact ⟨a, c, xs, rfl, h1.out, h2.out, h3, h4.out⟩
end Go.Proofs.Ytdjneckgckagdaa
