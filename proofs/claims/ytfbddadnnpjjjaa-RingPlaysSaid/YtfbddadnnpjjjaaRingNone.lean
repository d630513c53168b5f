/- Queues that New did not make: none, and one of zeros. No conditions. -/
import Derived.Test.YtfbddadnnpjjjaaRingWorks
namespace Go.Proofs.Ytfbddadnnpjjjaa
open Go.RowKit Go.Shelf
attribute [local go_sem] Oper.semAt_some

/-- nothing stands there and nothing may -/
structure NoQ (w : World) (p : Option Addr) : Prop where
  len : ∀ W, Below w.heap.size w W → Calls Try.prog 19 #[.pointer p] W fun e w' => e = .returned (.int .i64 ((0 : Nat) : Int)) ∧ W = w'
  full : ∀ W, Below w.heap.size w W → Calls Try.prog 29 #[.pointer p] W fun e w' => e = .returned (.bool true) ∧ Quiet W w'
theorem NoQ.below {w w' : World} {p : Option Addr} (h : NoQ w p) (hb : Below w.heap.size w w') : NoQ w' p := ⟨fun W hW => h.len W (btrans hb hW), fun W hW => h.full W (btrans hb hW)⟩
theorem noq_none (w : World) : NoQ w none := by
  constructor
  · intro W _
    go_enter Try.func19, Try.ntmps19
    go_wp2
    go_ret
    exact ⟨rfl, rfl⟩
  · intro W _
    go_enter Try.func29, Try.ntmps29
    go_wp2
    go_quiet (fail)
    go_wp2
    go_ret
    exact ⟨rfl, Quiet.one _ _⟩
theorem noq_zero (w : World) (z : Nat) (hz : RowAt w z TQI [.bool false, .int .i64 0, .slice none 0 0]) : NoQ w (some ⟨z, 0, none⟩) := by
  constructor
  · intro W hW
    have c2 : W.cell? ⟨z, 2, none⟩ = some (.slice none 0 0) := (hz.below hW).cell 2
    go_enter Try.func19, Try.ntmps19
    go_wp2
    go_ret
    exact ⟨rfl, rfl⟩
  · intro W hW
    have c0 : W.cell? ⟨z, 0, none⟩ = some (.bool false) := (hz.below hW).cell 0
    have c1 : W.cell? ⟨z, 1, none⟩ = some (.int .i64 0) := (hz.below hW).cell 1
    have c2 : W.cell? ⟨z, 2, none⟩ = some (.slice none 0 0) := (hz.below hW).cell 2
    go_enter Try.func29, Try.ntmps29
    go_wp2
    go_quiet (fail)
    go_wp2
    go_ret
    exact ⟨rfl, Quiet.one _ _⟩
section
variable {w : World} {p : Option Addr}
theorem noq_put (h : NoQ w p) (x : Int) : Calls Try.prog 11 #[.pointer p, .int .i64 x] w fun e w' => e = .returned (.bool false) ∧ Quiet w w' := by
  have F := Lib.hid (h.full w (Below.refl _ _))
  clear h
  go_enter Try.func11, Try.ntmps11
  go_wp2_with fail
  refine F.out.mono ?_
  rintro e w1 ⟨rfl, hq⟩
  go_wp2
  go_ret
  exact ⟨rfl, hq⟩
theorem noq_push (h : NoQ w p) (x : Int) : Calls Try.prog 13 #[.pointer p, .int .i64 x] w fun e w' => e = .returned (.bool false) ∧ Quiet w w' := by
  have F := Lib.hid (h.full w (Below.refl _ _))
  clear h
  go_enter Try.func13, Try.ntmps13
  go_wp2_with fail
  refine F.out.mono ?_
  rintro e w1 ⟨rfl, hq⟩
  go_wp2
  go_ret
  exact ⟨rfl, hq⟩
theorem noq_out (h : NoQ w p) (k : Int) : Calls Try.prog 31 #[.pointer p, .int .i64 k] w fun e w' => e = .returned (.tuple #[.int .i64 0, .bool false]) ∧ w = w' := by
  have F := Lib.hid (h.len w (Below.refl _ _))
  clear h
  go_enter Try.func31, Try.ntmps31
  go_wp2_with fail
  refine F.out.mono ?_
  rintro e w1 ⟨rfl, rfl⟩
  go_wp2
  refine bodyPost_ret (v := .tuple #[.int .i64 0, .bool false]) (by simp [results, Try.results31, go_sem]) rfl ⟨rfl, rfl⟩
theorem noq_take (h : NoQ w p) : Calls Try.prog 15 #[.pointer p] w fun e w' => e = .returned (.tuple #[.int .i64 0, .bool false]) ∧ w = w' := by
  have O := Lib.hid (noq_out h 0)
  clear h
  go_enter Try.func15, Try.ntmps15
  go_wp2_with fail
  refine O.out.mono ?_
  rintro e w1 ⟨rfl, rfl⟩
  go_wp2
  go_ret2
  exact ⟨rfl, rfl⟩
theorem noq_last (h : NoQ w p) : Calls Try.prog 17 #[.pointer p] w fun e w' => e = .returned (.tuple #[.int .i64 0, .bool false]) ∧ w = w' := by
  have F := Lib.hid (h.len w (Below.refl _ _))
  have O := Lib.hid (noq_out h (-1))
  clear h
  go_enter Try.func17, Try.ntmps17
  go_wp2_with fail
  refine F.out.mono ?_
  rintro e w1 ⟨rfl, rfl⟩
  go_wp2_with fail
  refine O.out.mono ?_
  rintro e w1 ⟨rfl, rfl⟩
  go_wp2
  go_ret2
  exact ⟨rfl, rfl⟩
end
set_option maxHeartbeats 2000000 in
theorem all1_none (w : World) (Bp : Nat) (p : Option Addr) (h : NoQ w p) (hp : w.cell? ⟨Bp, 0, none⟩ = some (.pointer p)) :
    SeqO Try.prog 42 #[.pointer (some ⟨Bp, 0, none⟩)] (fun x : Int => #[.int .i64 x]) (fun _ _ _ => True) (KpT w.heap.size 26 3) (fun ys => ys = []) (fun _ => True) 0 w := by
  intro l J Jx W hW oJ oJx hY h0
  have hc : W.cell? ⟨Bp, 0, none⟩ = some (.pointer p) := bcell hW hp
  have hc1 : ∀ o, (W.alloc o).cell? ⟨Bp, 0, none⟩ = some (.pointer p) := fun o => bcell (balloc (Below.refl _ _) o) hc
  have fl : Fence.wide.fn 43 := trivial
  clear hY
  refine (callsIn_wide (n := 9)).1 ?_
  refine callsIn_of_wp_marks Try.func42 rfl trivial ?_ rfl
  simp only [Try.ntmps42, List.size_toArray, List.length_cons, List.length_nil, Nat.reduceAdd, Nat.reduceSub, Array.replicate_succ, Array.replicate_zero, List.push_toArray, List.append_toArray, List.nil_append, List.cons_append]
  gi_wp2_with (gi_at_call 43; refine (callsIn_wide.2 (places_any _ _)).mono ?_; rintro e w' ⟨rfl, rfl⟩)
  obtain ⟨W0, hW0⟩ : ∃ W0, (W.alloc (.cells #[.func (.yield l) #[] #[]] 31)).alloc (.cells #[.pointer p] 24) = W0 := ⟨_, rfl⟩
  have hz : W0.heap.size = W.heap.size + 2 := by rw [← hW0]; simp
  have hB0 : Below W.heap.size W W0 := by rw [← hW0]; exact balloc (balloc (Below.refl _ _) _) _
  have hp0 : W0.cell? ⟨W.heap.size + 1, 0, none⟩ = some (.pointer p) := by rw [← hW0, World.cell?_alloc_at _ _ _ _ (by simp)]; rfl
  have hJ0 : J [] W0 := by rw [← hW0]; exact oJ.alloc _ (oJ.alloc _ h0)
  rw [hW0]
  clear hW0
  have hlen := (h.below (btrans hW hB0)).len
  refine wp_rangeO (m := 9) (gf := 48) (lb := #[.pointer (some ⟨W.heap.size + 1, 0, none⟩)]) rfl (enters_of Try.func48 (by kernel_rfl) rfl)
    (places1_seq (fun _ _ => True) 0 (W.heap.size + 1) _ W0 (by omega) hp0 hlen) (fun _ _ => trivial) (fun _ _ _ _ _ _ _ _ => trivial) (Below.refl _ _) (fun _ => rfl)
    (fun _ W' => J [] W') (fun _ _ _ => False) ?hI (fun _ _ _ _ _ h _ _ => h) hJ0
    (fun x => { tmps := #[.func (.yield l) #[] #[], .pointer (some ⟨Bp, 0, none⟩), .pointer (some ⟨W.heap.size, 0, none⟩), .int .i64 x, .pointer p, .func (.func 48) #[] #[.pointer (some ⟨W.heap.size + 1, 0, none⟩)], .int .i64 x, undef, undef, undef, undef, undef, undef, undef, undef, undef, undef], defers := [] }) ?assign ?hAd ?body ?done ?stop
  case hI => exact fun s A B' row h1 hg hr => ownFrom_mono oJ (by omega) _ A B' row h1 hg hr
  case assign =>
    intro l' x W1 K hK
    gi_wp2
    exact hK
  case hAd => exact fun _ _ _ _ _ _ _ _ _ h => h
  case body => exact fun l' pre x W1 _ hlt _ => absurd hlt (Nat.not_lt_zero _)
  case done =>
    rintro D ys W1 hD rfl hj hK
    gi_wp2
    refine ⟨by simp, .inl ⟨_, _, rfl, run_takeDeferred hK, ?_⟩⟩
    exact ⟨_, results_none rfl _ _ _, ⟨_, rfl⟩, .inl ⟨_, rfl, oJ.putObj _ hj (by omega) hK rfl⟩⟩
  case stop => exact fun D cd pre W1 hD _ h hK => h.elim
theorem list_none (w : World) (p : Option Addr) (h : NoQ w p) : Calls Try.prog 18 #[.pointer p] w (Lists [] w) := by
  have hb1 : Below w.heap.size w (w.alloc (.cells #[.pointer p] 24)) := balloc (Below.refl _ _) _
  have hs := all1_none _ w.heap.size p (h.below hb1) (Boxed.new w _ _).cell
  have C := Lib.hid (collectI _ _ 42 _ (fun _ _ _ => True) (fun ys => ys = []) _ 0 (Nat.le_refl _) (by omega) (enters_of Try.func42 (by kernel_rfl) rfl) (fun _ _ _ _ _ _ _ _ h => h) hs (fun ys e => by rw [e]; exact Nat.le_refl _) (fun _ _ => True) (fun _ _ _ _ _ _ _ _ _ => trivial) trivial (fun _ _ _ _ _ _ _ => trivial))
  have eq0 : ∀ W : World, (binOp .eql 60 (.func (.func 42) #[] #[.pointer (some ⟨w.heap.size, 0, none⟩)]) .nilFunc).run Try.prog W = .ok (.bool false) W := fun W => by kernel_rfl
  clear hs h
  go_enter Try.func18, Try.ntmps18
  go_wp2_with fail
  refine (all_any _ _).mono ?_
  rintro e w1 ⟨rfl, rfl⟩
  go_wp2_with fail
  refine C.out.mono ?_
  rintro e w2 ⟨a2, c2, ys, rfl, rfl, h2, hb2, _⟩
  replace h2 : Hid (OwnN .i64 w2 _ 3 a2 ([] : List Int).length c2 []) := h2
  clear C
  go_wp2
  go_ret2
  exact ⟨a2, c2, rfl, own_base h2.out hb1.size, btrans hb1 hb2⟩
theorem rmost_any (w : World) (m : Int) : Calls Try.prog 21 #[.int .i64 m] w fun e w' => e = .returned (.int .i64 (mostP m)) ∧ w = w' := by
  by_cases h1 : m < 0
  · skip
    go_enter Try.func21, Try.ntmps21
    go_wp2
    go_ret
    exact ⟨ret_int (by unfold mostP; omega), rfl⟩
  · by_cases h2 : 65536 < m
    · skip
      go_enter Try.func21, Try.ntmps21
      go_wp2
      go_ret
      exact ⟨ret_int (by unfold mostP; omega), rfl⟩
    · skip
      go_enter Try.func21, Try.ntmps21
      go_wp2
      go_ret
      exact ⟨ret_int (by unfold mostP; omega), rfl⟩
end Go.Proofs.Ytfbddadnnpjjjaa
