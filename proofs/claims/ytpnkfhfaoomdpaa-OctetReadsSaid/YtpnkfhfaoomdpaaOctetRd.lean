/- A reader in memory: From, none, Err, fault. Conditions: the clone's bound. -/
import Derived.Test.YtpnkfhfaoomdpaaOctetWalks3
namespace Go.Proofs.Ytpnkfhfaoomdpaa
open Go.RowKit

/-- a reader that From made lies at block g: where its bytes lie, how far they were read, the fault -/
def Rdr (w : World) (g : Nat) (a : Option Addr) (n cap : Nat) (at_ e : Int) : Prop := w.heap[g]? = some (.cells #[.slice a n cap, .int .i64 at_, .int .i64 e, .bool true] 50 (0, 0))
section
variable {w : World} {g : Nat} {a : Option Addr} {n cap : Nat} {at_ e : Int}
theorem Rdr.c0 (h : Rdr w g a n cap at_ e) : w.cell? ⟨g, 0, none⟩ = some (.slice a n cap) := by simp [World.cell?, show w.heap[g]? = _ from h]
theorem Rdr.c1 (h : Rdr w g a n cap at_ e) : w.cell? ⟨g, 1, none⟩ = some (.int .i64 at_) := by simp [World.cell?, show w.heap[g]? = _ from h]
theorem Rdr.c2 (h : Rdr w g a n cap at_ e) : w.cell? ⟨g, 2, none⟩ = some (.int .i64 e) := by simp [World.cell?, show w.heap[g]? = _ from h]
theorem Rdr.c3 (h : Rdr w g a n cap at_ e) : w.cell? ⟨g, 3, none⟩ = some (.bool true) := by simp [World.cell?, show w.heap[g]? = _ from h]
theorem Rdr.free (h : Rdr w g a n cap at_ e) (j : Nat) : w.frozen? ⟨g, j, none⟩ = false := by simp [World.frozen?, show w.heap[g]? = _ from h]
theorem Rdr.lt (h : Rdr w g a n cap at_ e) : g < w.heap.size := (Array.getElem?_eq_some_iff.1 h).1
theorem Rdr.set1 (h : Rdr w g a n cap at_ e) (x : Int) : Rdr (w.setCell ⟨g, 1, none⟩ (.int .i64 x)) g a n cap x e := by
  unfold Rdr at h ⊢
  simp [World.setCell, Array.getElem?_modify, h]
theorem Rdr.set2 (h : Rdr w g a n cap at_ e) (x : Int) : Rdr (w.setCell ⟨g, 2, none⟩ (.int .i64 x)) g a n cap at_ x := by
  unfold Rdr at h ⊢
  simp [World.setCell, Array.getElem?_modify, h]
theorem Rdr.drewN (h : Rdr w g a n cap at_ e) (k : Nat) : Rdr (w.drewN k) g a n cap at_ e := h
theorem Rdr.below (h : Rdr w g a n cap at_ e) {w' : World} (hb : Below w.heap.size w w') : Rdr w' g a n cap at_ e := (hb.block g h.lt).trans h
end
theorem from_any (w : World) (a1 : Option Addr) (n1 c1 : Nat) (bs : List Int) (h1 : NumsAt .u8 w a1 bs) (hn1 : n1 = bs.length) (b1 : n1 ≤ 10000) :
    Calls Try.prog 18 #[.slice a1 n1 c1] w fun e w' => ∃ g a cap, e = .returned (.pointer (some ⟨g, 0, none⟩)) ∧ w.heap.size ≤ g ∧ NumsAt .u8 w' a bs ∧ Hid (∀ ad : Addr, a = some ad → w.heap.size ≤ ad.block ∧ ad.block ≠ g) ∧ Rdr w' g a bs.length cap 0 0 ∧ Below w.heap.size w w' ∧ bs.length ≤ cap := by
  subst hn1
  have C := Lib.hid (clone_bytes w a1 bs.length c1 bs h1 rfl (by omega))
  go_enter Try.func18, Try.ntmps18
  go_wp2_with fail
  refine C.out.mono ?_
  rintro e w1 ⟨a, cap, rfl, ho, hb⟩
  have hz := hb.size
  go_wp2
  go_ret
  refine ⟨w1.heap.size, a, cap, ?_, hz, (NumsAt.of_owns ho).alloc _, ?_, ?_, balloc hb _, ho.caps.1⟩
  · rfl
  · intro ad had
    subst had
    have := ho.lt' rfl
    exact ⟨this.1, by omega⟩
  · exact heap_alloc_new w1 _
theorem none_any (w : World) (g : Nat) (a : Option Addr) (n cap : Nat) (at_ e : Int) (h : Rdr w g a n cap at_ e) :
    Calls Try.prog 33 #[.pointer (some ⟨g, 0, none⟩)] w fun r w' => r = .returned (.bool (e != 0)) ∧ w = w' := by
  have c2 := h.c2
  have c3 := h.c3
  clear h
  go_enter Try.func33, Try.ntmps33
  go_wp2
  go_ret
  exact ⟨rfl, rfl⟩
theorem err_any (w : World) (g : Nat) (a : Option Addr) (n cap : Nat) (at_ e : Int) (h : Rdr w g a n cap at_ e) :
    Calls Try.prog 26 #[.pointer (some ⟨g, 0, none⟩)] w fun r w' => r = .returned (.int .i64 e) ∧ w = w' := by
  have c2 := h.c2
  have c3 := h.c3
  clear h
  go_enter Try.func26, Try.ntmps26
  go_wp2
  go_ret
  exact ⟨rfl, rfl⟩
theorem end0 {P : Program} {fn : Func} {R : Ending → World → Prop} {a : Act} {w : World} (hr : fn.results = #[]) (hd : a.defers = []) (hR : R (.returned (.tuple #[])) w) : bodyPost P fn R .normal a w := ⟨hd, .tuple #[], by simp [results, hr], hR⟩
theorem fault_any (w : World) (g : Nat) (a : Option Addr) (n cap : Nat) (at_ e : Int) (h : Rdr w g a n cap at_ e) (x y : Int) :
    Calls Try.prog 35 #[.pointer (some ⟨g, 0, none⟩), .int .i64 x, .int .i64 y] w fun r w' => r = .returned (.tuple #[]) ∧ w' = (w.setCell ⟨g, 1, none⟩ (.int .i64 x)).setCell ⟨g, 2, none⟩ (.int .i64 y) := by
  have c1 := h.c1
  have c2 := h.c2
  have f1 := h.free 1
  have f2 := h.free 2
  clear h
  go_enter Try.func35, Try.ntmps35
  go_wp2
  exact end0 rfl rfl ⟨rfl, rfl⟩
end Go.Proofs.Ytpnkfhfaoomdpaa
