/- One step of a search: the next pair behind a spot. Conditions: the spot and the record in memory, the bounds. -/
import Derived.Test.YtfcpfcgcfaacnaaSNdM
import Derived.BigRegion
import Derived.Deep.QuietTactic
import Derived.IntWalk
namespace Go.Proofs.Ytfcpfcgcfaacnaa
open Go.RowKit
theorem step_none (w : World) (sB g o m : Nat) (na : Option Addr) (nc : Nat) (h3 : w.cell? ⟨g, o + 3, none⟩ = some (.slice na m nc)) (h4 : w.cell? ⟨g, o + 4, none⟩ = some (.int .i64 (m : Int))) :
  Calls Try.prog 69 #[.pointer (some ⟨sB, 0, none⟩), .pointer (some ⟨g, o, none⟩)] w fun e w' => e = .returned (.tuple #[.agg #[.int .i64 0, .int .i64 0, .int .i64 0], .bool false]) ∧ Below w.heap.size w w' := by
 have hgl := World.block_lt_of_cell? w _ h4
 simp only at hgl
 go_enter Try.func69, Try.ntmps69
 go_wp2
 go_quiet (fail)
 go_wp2
 refine bodyPost_ret (v := .tuple #[.agg #[.int .i64 0, .int .i64 0, .int .i64 0], .bool false]) (by simp [results, Try.results69, go_sem]) rfl ⟨rfl, ?_⟩
 exact bsetN (bsetN (bsetN (bdrewN (balloc (Below.refl _ _) _) _) (Nat.le_refl _)) (Nat.le_refl _)) (Nat.le_refl _)
theorem step_world (w : World) (o : Obj) (n sB g i j : Nat) (u v : Value) (hs : sB < w.heap.size) (hg : g < w.heap.size) :
  (((w.alloc o).drewN n).setCell ⟨sB, i, none⟩ u).setCell ⟨g, j, none⟩ v = (((w.setCell ⟨sB, i, none⟩ u).setCell ⟨g, j, none⟩ v).drewN n).alloc o := by
 show (((w.drewN n).alloc o).setCell ⟨sB, i, none⟩ u).setCell ⟨g, j, none⟩ v = _
 rw [World.setCell_alloc_past (w := w.drewN n) o sB i u hs, World.setCell_alloc_past o g j v (by simpa using hg)]
 rfl
set_option maxHeartbeats 1000000 in
theorem step_more (w : World) (sB g o m e : Nat) (na : Option Addr) (nc : Nat) (l : List PP) (y : PP) (h3 : w.cell? ⟨g, o + 3, none⟩ = some (.slice na l.length nc)) (h4 : w.cell? ⟨g, o + 4, none⟩ = some (.int .i64 (m : Int))) (f4 : w.frozen? ⟨g, o + 4, none⟩ = false)
  (h6 : w.cell? ⟨sB, 6, none⟩ = some (.int .i64 (e : Int))) (f6 : w.frozen? ⟨sB, 6, none⟩ = false) (hne : g ≠ sB) (hl : PpsAt w na l) (hy : l[m]? = some y) (hna : ∀ ad, na = some ad → ad.block ≠ g ∧ ad.block ≠ sB) (hl2 : l.length ≤ 1000000) (he : e ≤ 4000000000000000000) :
  Calls Try.prog 69 #[.pointer (some ⟨sB, 0, none⟩), .pointer (some ⟨g, o, none⟩)] w fun e' w' => e' = .returned (.tuple #[.agg #[.int .i64 y.node, .int .i64 y.state, .int .i64 y.turn], .bool true]) ∧ Below w.heap.size ((w.setCell ⟨sB, 6, none⟩ (.int .i64 ((e + 1 : Nat) : Int))).setCell ⟨g, o + 4, none⟩ (.int .i64 ((m + 1 : Nat) : Int))) w' := by
 have hgl := World.block_lt_of_cell? w _ h4
 have hsl := World.block_lt_of_cell? w _ h6
 simp only at hgl hsl
 have hm : m < l.length := get_le hy
 obtain ⟨bn, on, rfl, hbl, y0, y1, y2⟩ := hl.at m hm
 have hym : l[m] = y := by rw [List.getElem?_eq_getElem hm] at hy; exact Option.some.inj hy
 rw [hym] at y0 y1 y2
 obtain ⟨hn1, hn2⟩ := hna _ rfl
 simp only at hn1 hn2
 obtain ⟨n, hn⟩ : ∃ n, n = l.length := ⟨_, rfl⟩
 rw [← hn] at h3 hl2 hm
 replace hn := Lib.hid hn
 obtain ⟨yn, ys, yt⟩ := y
 simp only at y0 y1 y2
 have hd : decide (m = n) = false := decide_eq_false (by omega)
 have hn2i : (n : Int) ≤ 1000000 := by omega
 have hmi : (m : Int) < (n : Int) := by omega
 have hei : (e : Int) ≤ 4000000000000000000 := by omega
 have hme : ((m : Int) == (n : Int)) = false := by simp; omega
 clear hym hy hl hna
 go_enter Try.func69, Try.ntmps69
 go_wp2
 go_quiet (fail)
 go_wp2
 rw [step_world _ _ _ _ _ _ _ _ _ hsl hgl]
 have e1 : (e : Int) + 1 = ((e + 1 : Nat) : Int) := by push_cast; rfl
 have e2 : (m : Int) + 1 = ((m + 1 : Nat) : Int) := by push_cast; rfl
 rw [e1, e2]
 obtain ⟨wx, hwx⟩ : ∃ wx, wx = (w.setCell ⟨sB, 6, none⟩ (.int .i64 ((e + 1 : Nat) : Int))).setCell ⟨g, o + 4, none⟩ (.int .i64 ((m + 1 : Nat) : Int)) := ⟨_, rfl⟩
 have hsz : wx.heap.size = w.heap.size := by rw [hwx]; simp
 have g3 : wx.cell? ⟨g, o + 3, none⟩ = some (.slice (some ⟨bn, on, none⟩) n nc) := by
  rw [hwx, World.cell?_setCell_other _ _ _ _ (fun e => by injection e with _ e _; omega), World.cell?_setCell_other _ _ _ _ (fun e => by injection e with e _ _; exact hne e.symm)]
  exact h3
 have g4 : wx.cell? ⟨g, o + 4, none⟩ = some (.int .i64 ((m + 1 : Nat) : Int)) := by
  rw [hwx]
  refine World.cell?_setCell_same _ _ _ (u := .int .i64 (m : Int)) ?_
  rw [World.cell?_setCell_other _ _ _ _ (fun e => by injection e with e _ _; exact hne e.symm)]
  exact h4
 have gy : ∀ k v, w.cell? ⟨bn, k, none⟩ = some v → wx.cell? ⟨bn, k, none⟩ = some v := fun k v h => by
  rw [hwx, World.cell?_setCell_other _ _ _ _ (fun e => by injection e with e _ _; exact hn1 e.symm), World.cell?_setCell_other _ _ _ _ (fun e => by injection e with e _ _; exact hn2 e.symm)]
  exact h
 replace y0 := gy _ _ y0
 replace y1 := gy _ _ y1
 replace y2 := gy _ _ y2
 rw [← hwx]
 have hm1 : ((m + 1 : Nat) : Int) - 1 = (m : Int) := by push_cast; omega
 have hwr : IntKind.i64.wrap (((m + 1 : Nat) : Int) - 1) = (m : Int) := by rw [hm1]; exact IntWalk.i64_in _ (by omega)
 obtain ⟨m1, hmm⟩ : ∃ m1, m1 = m + 1 := ⟨_, rfl⟩
 rw [← hmm] at hwr g4 hm1 ⊢
 have hm1c : (m1 : Int) ≤ 1000001 := by omega
 have hB : Hid (Below w.heap.size wx ((wx.drewN nq).alloc (.cells #[.int .i64 0, .int .i64 0, .int .i64 0] TPP))) := by
  show Below _ _ _
  rw [← hsz]
  exact balloc (bdrewN (Below.refl _ _) nq) _
 obtain ⟨w2, hw2⟩ : ∃ w2, w2 = (wx.drewN nq).alloc (.cells #[.int .i64 0, .int .i64 0, .int .i64 0] TPP) := ⟨_, rfl⟩
 have r2 : RowAt w2 w.heap.size TPP [.int .i64 0, .int .i64 0, .int .i64 0] := by
  rw [hw2]
  have := RowAt.new (w := wx.drewN nq) (T := TPP) #[.int .i64 0, .int .i64 0, .int .i64 0] rfl
  rw [show (wx.drewN nq).heap.size = w.heap.size from hsz] at this
  exact this
 rw [← hw2] at hB ⊢
 have hB' := hB.out
 rw [← hsz] at hB'
 have k3 := bcell hB' g3
 have k4 := bcell hB' g4
 have k0 := bcell hB' y0
 have k1 := bcell hB' y1
 have k2 := bcell hB' y2
 have z0 : w2.cell? ⟨w.heap.size, 0, none⟩ = some (.int .i64 0) := r2.cell 0
 have z1 : w2.cell? ⟨w.heap.size, 1, none⟩ = some (.int .i64 0) := r2.cell 1
 have z2 : w2.cell? ⟨w.heap.size, 2, none⟩ = some (.int .i64 0) := r2.cell 2
 have fz0 := r2.free 0
 have fz1 := r2.free 1
 have fz2 := r2.free 2
 replace hsz := Lib.hid hsz
 replace hmm := Lib.hid hmm
 replace hwx := Lib.hid hwx
 clear hw2 hB' g3 g4 y0 y1 y2 h3 h4 f4 h6 f6 gy e1 e2
 go_region
 all_goals (
  go_wp2
  refine bodyPost_ret (v := .tuple #[.agg #[.int .i64 yn, .int .i64 ys, .int .i64 yt], .bool true]) (by simp [results, Try.results69, go_sem, z0, z1, z2]) rfl ⟨rfl, ?_⟩
  rw [← hwx.out]
  have hB2 := hB.out
  rw [← hsz.out] at hB2 ⊢
  first
   | exact bsetN (bsetN (bsetN hB2 (Nat.le_refl _)) (Nat.le_refl _)) (Nat.le_refl _)
   | exact (bsetN (bsetN (bsetN hB2 (Nat.le_refl _)) (Nat.le_refl _)) (Nat.le_refl _)).drew)
end Go.Proofs.Ytfcpfcgcfaacnaa
