/- The document's queue: Put, Push, Take, Last; calls in memory. Conditions: few numbers. -/
import Derived.Test.YtfbddadnnpjjjaaRingNone
import Derived.Test.YtfbddadnnpjjjaaStruct
import Derived.Test.YtfbddadnnpjjjaaCut
import Derived.Test.YtfbddadnnpjjjaaApp2
namespace Go.Proofs.Ytfbddadnnpjjjaa
open Go.RowKit

/-- a list that the document's call gives: the one that came, or a new one, or a part of it -/
def Row2 (ls : List Int) (b : Bool) (w : World) (e : Ending) (w' : World) : Prop := ∃ a c, e = .returned (.tuple #[.slice a ls.length c, .bool b]) ∧ ls.length ≤ c ∧ OwnN .i64 w' w.heap.size 3 a ls.length c ls ∧ Below w.heap.size w w'
theorem rput_no (w : World) (a : Option Addr) (n c : Nat) (m x M : Int) (hM : mostP m = M) (h : M ≤ (n : Int)) :
    Calls Try.prog 10 #[.slice a n c, .int .i64 m, .int .i64 x] w fun e w' => e = .returned (.tuple #[.slice a n c, .bool false]) ∧ w = w' := by
  have R := rmost_any w m
  rw [hM] at R
  replace R := Lib.hid R
  clear hM
  go_enter Try.func10, Try.ntmps10
  go_wp2_with fail
  refine R.out.mono ?_
  rintro e w1 ⟨rfl, rfl⟩
  go_wp2
  go_ret2
  exact ⟨rfl, rfl⟩
set_option maxHeartbeats 1000000 in
theorem rput_yes (w : World) (a : Option Addr) (n c : Nat) (ls : List Int) (hn : n = ls.length) (hl : NumsAt .i64 w a ls) (h8 : n ≤ 70000) (m x M : Int) (hM : mostP m = M) (h : (n : Int) < M) :
    Calls Try.prog 10 #[.slice a n c, .int .i64 m, .int .i64 x] w (Row2 (ls ++ [x]) true w) := by
  have R := rmost_any w m
  rw [hM] at R
  replace R := Lib.hid R
  clear hM
  replace hl := Lib.hid hl
  have y0 := Lib.hid (show (0 + n) * 8 ≤ 140737488355328 by omega)
  have y1 := Lib.hid (show (n + 1) * 8 ≤ 140737488355328 by omega)
  replace hn := Lib.hid hn
  go_enter Try.func10, Try.ntmps10
  go_wp2_with fail
  refine R.out.mono ?_
  rintro e w1 ⟨rfl, rfl⟩
  have OW := Lib.hid (own_empty .i64 w 3 0 w.heap.size (Nat.le_refl _))
  have hb1 := Lib.hid (balloc (Below.refl w.heap.size w) (.cells #[] 3))
  have hl1 := Lib.hid (hl.out.below hb1.out)
  go_wp2_with (at_builtin; refine wp_appS rfl _ _ 26 3 .i64 8 rfl Try.underlying26 infoN w.heap.size _ 0 0 [] rfl OW.out a n c ls rfl hn.out hl1.out y0.out (by decide) hb1.out.size ?_)
  intro a2 c2 w2 ho2 hg2
  have hb2 := Lib.hid (bgrown hb1.out hg2 (fun k hk => (OW.out.lt2 hk).1))
  clear OW hl1 hb1 hg2
  have OW := Lib.hid (OwnN.alloc ho2 (.cells #[.int .i64 x] 3))
  have NC : Hid ((w2.alloc (.cells #[.int .i64 x] 3)).cell? ⟨w2.heap.size, 0, none⟩ = some (.int .i64 x)) := World.cell?_alloc_at _ _ _ _ rfl
  have hb3 := Lib.hid (balloc hb2.out (.cells #[.int .i64 x] 3))
  clear ho2
  go_wp2_with (at_builtin; refine wp_app1 rfl _ _ 26 3 .i64 8 rfl Try.underlying26 infoN w.heap.size a2 n c2 _ rfl OW.out _ 1 x rfl NC.out y1.out (by decide) hb3.out.size ?_)
  intro a4 c4 w4 ho4 hg4
  have hb4 := Lib.hid (bgrown hb3.out hg4 (fun k hk => (OW.out.lt2 hk).1))
  have hc4 := Lib.hid ho4.caps.1
  have hlen : Hid ((ls ++ [x]).length = n + 1) := by show _ = _; rw [List.length_append, hn.out]; simp
  clear OW NC hb3 hg4
  replace ho4 := Lib.hid ho4
  go_wp2
  go_ret2
  exact ⟨a4, c4, by rw [hlen.out]; rfl, by rw [hlen.out]; exact hc4.out, by rw [hlen.out]; exact ho4.out, hb4.out⟩
theorem rpush_no (w : World) (a : Option Addr) (n c : Nat) (m x M : Int) (hM : mostP m = M) (h : M ≤ (n : Int)) :
    Calls Try.prog 12 #[.slice a n c, .int .i64 m, .int .i64 x] w fun e w' => e = .returned (.tuple #[.slice a n c, .bool false]) ∧ w = w' := by
  have R := rmost_any w m
  rw [hM] at R
  replace R := Lib.hid R
  clear hM
  go_enter Try.func12, Try.ntmps12
  go_wp2_with fail
  refine R.out.mono ?_
  rintro e w1 ⟨rfl, rfl⟩
  go_wp2
  go_ret2
  exact ⟨rfl, rfl⟩
set_option maxHeartbeats 1000000 in
theorem rpush_yes (w : World) (a : Option Addr) (n c : Nat) (ls : List Int) (hn : n = ls.length) (hl : NumsAt .i64 w a ls) (h8 : n ≤ 70000) (m x M : Int) (hM : mostP m = M) (h : (n : Int) < M) :
    Calls Try.prog 12 #[.slice a n c, .int .i64 m, .int .i64 x] w (Row2 (x :: ls) true w) := by
  have R := rmost_any w m
  rw [hM] at R
  replace R := Lib.hid R
  clear hM
  replace hl := Lib.hid hl
  have y0 := Lib.hid (show (1 + n) * 8 ≤ 140737488355328 by omega)
  replace hn := Lib.hid hn
  go_enter Try.func12, Try.ntmps12
  go_wp2_with fail
  refine R.out.mono ?_
  rintro e w1 ⟨rfl, rfl⟩
  have hb1 := Lib.hid (balloc (Below.refl w.heap.size w) (.cells #[.int .i64 x] 3))
  have OW : Hid (OwnN .i64 (w.alloc (.cells #[.int .i64 x] 3)) w.heap.size 3 (some ⟨w.heap.size, 0, none⟩) 1 1 [x]) := World.ownsRow_lit (base := w.heap.size) (e := 3) (size := 1) w #[.int .i64 x] 1 (Nat.le_refl _) (by unfold maxLen; omega) rfl
  have hl1 := Lib.hid (hl.out.below hb1.out)
  go_wp2_with (at_builtin; refine wp_appS rfl _ _ 26 3 .i64 8 rfl Try.underlying26 infoN w.heap.size _ 1 1 [x] rfl OW.out a n c ls rfl hn.out hl1.out y0.out (by decide) hb1.out.size ?_)
  intro a4 c4 w4 ho4 hg4
  have hb4 := Lib.hid (bgrown hb1.out hg4 (fun k hk => (OW.out.lt2 hk).1))
  have hc4 := Lib.hid ho4.caps.1
  have hlen : Hid ((x :: ls).length = 1 + n) := by show _ = _; rw [List.length_cons, hn.out]; omega
  clear OW hl1 hb1 hg4
  replace ho4 := Lib.hid ho4
  go_wp2
  go_ret2
  exact ⟨a4, c4, by rw [hlen.out]; rfl, by rw [hlen.out]; exact hc4.out, by rw [hlen.out]; exact ho4.out, hb4.out⟩
theorem rtake_no (w : World) (a : Option Addr) (c : Nat) :
    Calls Try.prog 14 #[.slice a 0 c] w fun e w' => e = .returned (.tuple #[.slice a 0 c, .int .i64 0, .bool false]) ∧ w = w' := by
  go_enter Try.func14, Try.ntmps14
  go_wp2
  refine bodyPost_ret (v := .tuple #[.slice a 0 c, .int .i64 0, .bool false]) (by simp [results, Try.results14, go_sem]) rfl ⟨rfl, rfl⟩
theorem rtake_yes (w : World) (a : Option Addr) (n c : Nat) (x : Int) (ls : List Int) (hn : n = ls.length + 1) (hc : n ≤ c) (hl : NumsAt .i64 w a (x :: ls)) :
    Calls Try.prog 14 #[.slice a n c] w fun e w' => e = .returned (.tuple #[.slice (cutA a c 1 1) (n - 1) (c - 1), .int .i64 x, .bool true]) ∧ Quiet w w' := by
  have cut : ∀ w, _ := fun w => run_cut_l Try.underlying26 Try.sizeInt a n c 1 (L := 1) (kl := .i64) rfl (by omega) w
  obtain ⟨b, off, y, rfl, cy, hy⟩ := hl.at 0 (by simp)
  rw [Nat.add_zero] at cy
  obtain rfl : y = x := hy.out
  have hn0 : 0 < n := by omega
  clear hl hy hn
  have hn1 : ((n : Int) == 0) = false := by simp; omega
  go_enter Try.func14, Try.ntmps14
  go_wp2
  go_quiet (fail)
  go_wp2
  refine bodyPost_ret (v := .tuple #[.slice (cutA (some ⟨b, off, none⟩) c 1 1) (n - 1) (c - 1), .int .i64 y, .bool true]) (by simp [results, Try.results14, go_sem]) rfl ⟨rfl, Quiet.one _ _⟩
theorem rlast_no (w : World) (a : Option Addr) (c : Nat) :
    Calls Try.prog 16 #[.slice a 0 c] w fun e w' => e = .returned (.tuple #[.slice a 0 c, .int .i64 0, .bool false]) ∧ w = w' := by
  go_enter Try.func16, Try.ntmps16
  go_wp2
  refine bodyPost_ret (v := .tuple #[.slice a 0 c, .int .i64 0, .bool false]) (by simp [results, Try.results16, go_sem]) rfl ⟨rfl, rfl⟩
theorem rlast_yes (w : World) (a : Option Addr) (n c : Nat) (ls : List Int) (hn : n = ls.length) (h0 : 0 < n) (hc : n ≤ c) (h8 : n ≤ 70000) (hl : NumsAt .i64 w a ls) :
    Calls Try.prog 16 #[.slice a n c] w fun e w' => e = .returned (.tuple #[.slice a (n - 1) c, .int .i64 (ls.getD (n - 1) 0), .bool true]) ∧ Quiet w w' := by
  obtain ⟨k, hk⟩ : ∃ k, k = n - 1 := ⟨_, rfl⟩
  have hkn : (n : Int) - 1 = (k : Int) := by omega
  have cut : ∀ w, _ := fun w => run_cut_h Try.underlying26 Try.sizeInt a n c k (H := (k : Int)) (kh := .i64) rfl (by omega) w
  rw [← hk]
  obtain ⟨b, off, y, rfl, cy, hy⟩ := hl.at k (by omega)
  rw [← hy.out]
  have hkl : k < n := by omega
  clear hl hy hn hk
  have hn1 : ((n : Int) == 0) = false := by simp; omega
  go_enter Try.func16, Try.ntmps16
  go_wp2
  go_quiet (fail)
  go_wp2
  refine bodyPost_ret (v := .tuple #[.slice (some ⟨b, off, none⟩) k c, .int .i64 y, .bool true]) (by simp [results, Try.results16, go_sem]) rfl ⟨rfl, Quiet.one _ _⟩
end Go.Proofs.Ytfbddadnnpjjjaa
