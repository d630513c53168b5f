/- The search of what is no product. No conditions. -/
import Derived.Test.YtfcpfcgcfaacnaaSNdSearch
namespace Go.Proofs.Ytfcpfcgcfaacnaa
open Go.RowKit
set_option maxHeartbeats 4000000 in
theorem search_nil (W0 : World) (bn bd : Int) :
  Calls Try.prog 14 #[.pointer none, .agg #[.int .i64 bn, .int .i64 bd]] W0 fun e w' => ∃ v, e = .returned v ∧ Below W0.heap.size W0 w' ∧ FoundNew W0.heap.size w' v ⟨1, 0, 0, 0, 0, [], []⟩ := by
 have h1 := heldI bn
 have h2 := heldI bd
 obtain ⟨n1, hn1⟩ : ∃ n, n = heldP bn := ⟨_, rfl⟩
 obtain ⟨n2, hn2⟩ : ∃ n, n = heldP bd := ⟨_, rfl⟩
 rw [← hn1] at h1
 rw [← hn2] at h2
 clear hn1 hn2
 go_enter Try.func14, Try.ntmps14
 go_upto_region 1 with (fail)
 go_cut [5] (fun c wx => c = .pointer (some ⟨W0.heap.size + 1 + 1, 0, none⟩) ∧ (∃ a b : Int, RowAt wx (W0.heap.size + 1 + 1) 34 [.int .i64 a, .int .i64 b] ∧ a = n1 ∧ b = n2) ∧ RowAt wx (W0.heap.size + 1) TFd [.int .i64 0, .int .i64 0, .int .i64 0, .int .i64 0, .int .i64 0, .slice none 0 0, .slice none 0 0] ∧ Below W0.heap.size W0 wx)
 case first =>
  obtain ⟨wB, hwB⟩ : ∃ wB, wB = W0.alloc (.cells #[.int .i64 bn, .int .i64 bd] 34) := ⟨_, rfl⟩
  obtain ⟨wC, hwC⟩ : ∃ wC, wC = wB.alloc (.cells #[.int .i64 0, .int .i64 0, .int .i64 0, .int .i64 0, .int .i64 0, .slice none 0 0, .slice none 0 0] TFd) := ⟨_, rfl⟩
  have zB : wB.heap.size = W0.heap.size + 1 := by rw [hwB]; simp
  have zC : wC.heap.size = W0.heap.size + 1 + 1 := by rw [hwC]; simp [zB]
  have rf : RowAt wC (W0.heap.size + 1) TFd [.int .i64 0, .int .i64 0, .int .i64 0, .int .i64 0, .int .i64 0, .slice none 0 0, .slice none 0 0] := by rw [hwC, ← zB]; exact RowAt.new #[.int .i64 0, .int .i64 0, .int .i64 0, .int .i64 0, .int .i64 0, .slice none 0 0, .slice none 0 0] rfl
  have bC : Below W0.heap.size W0 wC := by rw [hwC, hwB]; exact balloc (balloc (Below.refl _ _) _) _
  have FIN : Hid (∀ a b : Int, a = n1 → b = n2 → (∃ c d : Int, RowAt (wC.alloc (.cells #[.int .i64 a, .int .i64 b] 34)) (W0.heap.size + 1 + 1) 34 [.int .i64 c, .int .i64 d] ∧ c = n1 ∧ d = n2) ∧ RowAt (wC.alloc (.cells #[.int .i64 a, .int .i64 b] 34)) (W0.heap.size + 1) TFd [.int .i64 0, .int .i64 0, .int .i64 0, .int .i64 0, .int .i64 0, .slice none 0 0, .slice none 0 0] ∧ Below W0.heap.size W0 (wC.alloc (.cells #[.int .i64 a, .int .i64 b] 34))) := fun a b ha hb =>
   ⟨⟨a, b, by rw [← zC]; exact RowAt.new #[.int .i64 a, .int .i64 b] rfl, ha, hb⟩, rf.below (balloc (Below.refl _ _) _), btrans bC (balloc (Below.refl _ _) _)⟩
  replace FIN : Hid (∀ a b : Int, a = n1 → b = n2 → ∀ v, v = wC.alloc (.cells #[.int .i64 a, .int .i64 b] 34) → (∃ a b : Int, RowAt v (W0.heap.size + 1 + 1) 34 [.int .i64 a, .int .i64 b] ∧ a = n1 ∧ b = n2) ∧ RowAt v (W0.heap.size + 1) TFd [.int .i64 0, .int .i64 0, .int .i64 0, .int .i64 0, .int .i64 0, .slice none 0 0, .slice none 0 0] ∧ Below W0.heap.size W0 v) := fun a b ha hb v hv => by subst hv; exact FIN.out a b ha hb
  subst hwC hwB
  clear zB zC rf bC
  go_wp2
  all_goals (go_meet; exact ⟨rfl, FIN.out _ _ (by omega) (by omega) _ rfl⟩)
 case rest =>
  obtain ⟨rfl, ⟨_, _, hrb, rfl, rfl⟩, hrf, hbw⟩ := hcut
  obtain ⟨W, hW⟩ : ∃ W, W = wc := ⟨_, rfl⟩
  rw [← hW] at hrb hrf hbw ⊢
  clear hW h1 h2
  have t0 : W.cell? ⟨W0.heap.size + 1 + 1, 0, none⟩ = some (.int .i64 (n1 : Int)) := hrb.cell 0
  have t1 : W.cell? ⟨W0.heap.size + 1 + 1, 1, none⟩ = some (.int .i64 (n2 : Int)) := hrb.cell 1
  have hlt := hrb.lt
  replace hrf := Lib.hid hrf
  replace hbw := Lib.hid hbw
  clear hrb
  have hmm := @run_makeMap Try.prog
  have MD : Below W.heap.size W ((((W.alloc (.map #[] 0)).alloc (.map #[] 0)).alloc (.map #[] 0)).alloc (.cells #[.pointer none, .int .i64 (n1 : Int), .int .i64 (n2 : Int), .int .i64 0, .int .i64 0, .int .i64 0, .int .i64 0, .int .i64 0, .slice none 0 0, .slice none 0 0, .slice none 0 0, .slice none 0 0, .map (some W.heap.size), .map (some (W.heap.size + 1)), .map (some (W.heap.size + 1 + 1))] TSr)) := balloc (balloc (balloc (balloc (Below.refl _ _) _) _) _) _
  have RD := RowAt.new (w := ((W.alloc (.map #[] 0)).alloc (.map #[] 0)).alloc (.map #[] 0)) (T := TSr) #[.pointer none, .int .i64 (n1 : Int), .int .i64 (n2 : Int), .int .i64 0, .int .i64 0, .int .i64 0, .int .i64 0, .int .i64 0, .slice none 0 0, .slice none 0 0, .slice none 0 0, .slice none 0 0, .map (some W.heap.size), .map (some (W.heap.size + 1)), .map (some (W.heap.size + 1 + 1))] (n := W.heap.size + 1 + 1 + 1) (by simp)
  obtain ⟨sB, hsB⟩ : ∃ sB, sB = W.heap.size + 1 + 1 + 1 := ⟨_, rfl⟩
  rw [← hsB] at RD
  have hle : W.heap.size ≤ sB := by omega
  replace MD := Lib.hid MD
  replace RD := Lib.hid RD
  go_wp2_with fail
  rw [← hsB]
  generalize (((W.alloc (.map #[] 0)).alloc (.map #[] 0)).alloc (.map #[] 0)).alloc (.cells #[.pointer none, .int .i64 (n1 : Int), .int .i64 (n2 : Int), .int .i64 0, .int .i64 0, .int .i64 0, .int .i64 0, .int .i64 0, .slice none 0 0, .slice none 0 0, .slice none 0 0, .slice none 0 0, .map (some W.heap.size), .map (some (W.heap.size + 1)), .map (some (W.heap.size + 1 + 1))] TSr) = W4 at MD RD ⊢
  clear hsB hmm t0 t1
  refine (first_nil W4).mono ?_
  rintro e w5 ⟨fa, fc, rfl, hQ, hb5⟩
  have hlo : Below W.heap.size W w5 := btrans MD.out hb5
  have hrw : RowAt w5 sB TSr [.pointer none, .int .i64 (n1 : Int), .int .i64 (n2 : Int), .int .i64 0, .int .i64 0, .int .i64 0, .int .i64 0, .int .i64 0, .slice none 0 0, .slice none 0 0, .slice none 0 0, .slice none 0 0, .map (some W.heap.size), .map (some (W.heap.size + 1)), .map (some (W.heap.size + 1 + 1))] := RD.out.below hb5
  have d3 : w5.cell? ⟨sB, 3, none⟩ = some (.int .i64 0) := hrw.cell 3
  have d4 : w5.cell? ⟨sB, 4, none⟩ = some (.int .i64 0) := hrw.cell 4
  have d5 : w5.cell? ⟨sB, 5, none⟩ = some (.int .i64 0) := hrw.cell 5
  have d6 : w5.cell? ⟨sB, 6, none⟩ = some (.int .i64 0) := hrw.cell 6
  have d7 : w5.cell? ⟨sB, 7, none⟩ = some (.int .i64 0) := hrw.cell 7
  have d8 : w5.cell? ⟨sB, 8, none⟩ = some (.slice none 0 0) := hrw.cell 8
  have d9 : w5.cell? ⟨sB, 9, none⟩ = some (.slice none 0 0) := hrw.cell 9
  have f3 := hrw.free 3
  have rF := hrf.out.below hlo
  have hne : W0.heap.size + 1 ≠ sB := by omega
  have g0 := rF.free 0
  have g1 := rF.free 1
  have g2 := rF.free 2
  have g3 := rF.free 3
  have g4 := rF.free 4
  have g5 := rF.free 5
  have g6 := rF.free 6
  have e0 := rF.cell 0
  have e1 := rF.cell 1
  have e2 := rF.cell 2
  have e3 := rF.cell 3
  have e4 := rF.cell 4
  have e5 := rF.cell 5
  have e6 := rF.cell 6
  simp only [List.getElem?_cons_zero, List.getElem?_cons_succ] at e0 e1 e2 e3 e4 e5 e6
  have gl := rF.lt
  have rF3 := rF.other (Ne.symm hne) 3 (.int .i64 1)
  have b3 : Below W0.heap.size W0 (w5.setCell ⟨sB, 3, none⟩ (.int .i64 1)) := bsetN (btrans hbw.out hlo) (by omega)
  have FIN := Lib.hid (fun w' hw => found_end (w' := w') (rr := ⟨1, 0, 0, 0, 0, [], []⟩) (sa := none) (la := none) (sc := 0) (lc := 0) rF3 b3 (Nat.le_succ _) (fun h => by cases h) (fun ad had => by cases had) (fun h => by cases h) (fun ad had => by cases had) hw)
  clear rF3 b3 hrw hQ hb5 MD RD
  replace rF := Lib.hid rF
  replace hlo := Lib.hid hlo
  simp only [List.length_nil, Int.natCast_zero] at *
  go_wp2
  go_loopw [28] (fun kv wr => kv = .int .i64 0 ∧ wr = w5) (fun kv _ => 0)
  case atStart => exact ⟨rfl, rfl⟩
  case round =>
   obtain ⟨rfl, rfl⟩ := hrel
   go_wp2
   obtain ⟨rr7, b7, s7, l7⟩ := FIN.out _ rfl
   have c0 := rr7.cell 0
   have c1 := rr7.cell 1
   have c2 := rr7.cell 2
   have c3 := rr7.cell 3
   have c4 := rr7.cell 4
   have c5 := rr7.cell 5
   have c6 := rr7.cell 6
   simp only [fcells, List.getElem?_cons_zero, List.getElem?_cons_succ, List.length_nil, Int.natCast_one, Int.natCast_zero] at c0 c1 c2 c3 c4 c5 c6
   refine bodyPost_ret (v := .agg (fcells ⟨1, 0, 0, 0, 0, [], []⟩ none 0 none 0).toArray) (by simp [results, Try.results14, go_sem, c0, c1, c2, c3, c4, c5, c6, fcells]) rfl ⟨_, rfl, b7, ?_⟩
   exact ⟨none, 0, none, 0, rfl, ⟨s7, fun ad had => by cases had⟩, ⟨l7, fun ad had => by cases had⟩⟩
end Go.Proofs.Ytfcpfcgcfaacnaa
