/- The library's Delete and Insert at int on a row of the call's own, by the guide's contracts. Conditions: the place is within; the bound on an append. -/
import Derived.Test.YtfbddadnnpjjjaaMem
import Derived.Ground.Names2Prog
import Derived.Shelf.Slices.Delete
import Derived.Shelf.Slices.Cells
import Derived.Shelf.Spec.SlicesInsertGrow
namespace Go.Proofs
open Go.Shelf
def Try.delRen : Go.Shelf.Ren := ⟨fun | 23 => 41 | n => n, fun | 22 => 26 | 3 => 3 | 4 => 4 | 0 => 0 | n => n, fun | n => n⟩
def Try.insRen : Go.Shelf.Ren := ⟨fun | 21 => 30 | 27 => 39 | 28 => 40 | 35 => 47 | 39 => 49 | n => n, fun | 22 => 26 | 3 => 3 | 4 => 4 | 0 => 0 | n => n, fun | n => n⟩
theorem Try.insLays : Go.Proofs.Lays2.n21 Try.prog Try.insRen := {
  mixed := by kernel_rfl
  f21 := Try.func30.trans (congrArg some (by kernel_rfl))
  f27 := Try.func39.trans (congrArg some (by kernel_rfl))
  f28 := Try.func40.trans (congrArg some (by kernel_rfl))
  f35 := Try.func47.trans (congrArg some (by kernel_rfl))
  f39 := Try.func49.trans (congrArg some (by kernel_rfl))
  t0 := Try.underlying0
  a0 := Try.isAgg0
  z0 := Try.sizeOf0
  v0 := Try.zeroValue0
  t3 := Try.underlying3
  a3 := Try.isAgg3
  z3 := Try.sizeOf3
  v3 := Try.zeroValue3
  t4 := Try.underlying4
  a4 := Try.isAgg4
  z4 := Try.sizeOf4
  v4 := Try.zeroValue4
  t22 := Try.underlying26
  a22 := Try.isAgg26
  z22 := Try.sizeOf26
  v22 := Try.zeroValue26
  i3 := by kernel_rfl }
theorem Try.delLays : Go.Proofs.Lays2.n23 Try.prog Try.delRen := {
  mixed := by kernel_rfl
  f23 := Try.func41.trans (congrArg some (by kernel_rfl))
  t0 := Try.underlying0
  a0 := Try.isAgg0
  z0 := Try.sizeOf0
  v0 := Try.zeroValue0
  t3 := Try.underlying3
  a3 := Try.isAgg3
  z3 := Try.sizeOf3
  v3 := Try.zeroValue3
  t4 := Try.underlying4
  a4 := Try.isAgg4
  z4 := Try.sizeOf4
  v4 := Try.zeroValue4
  t22 := Try.underlying26
  a22 := Try.isAgg26
  z22 := Try.sizeOf26
  v22 := Try.zeroValue26
  i3 := by kernel_rfl }
end Go.Proofs
namespace Go.Proofs.Ytfbddadnnpjjjaa
open Go.RowKit

abbrev OI (a : Option Addr) (n c : Nat) : Option Nat := (Value.slice a n c).ownBlock

theorem own_setCells {k : IntKind} {base e g n cap : Nat} : ∀ (ys : List Int) (o : Nat) (w : World) (xs : List Int), OwnN k w base e (some ⟨g, 0, none⟩) n cap xs → o + ys.length ≤ xs.length →
    OwnN k (w.setCells g o (ys.map (Value.int k))) base e (some ⟨g, 0, none⟩) n cap (xs.take o ++ ys ++ xs.drop (o + ys.length))
  | [], o, w, xs, h, _ => by simpa [World.setCells] using h
  | y :: ys, o, w, xs, h, hl => by
    simp only [List.length_cons] at hl
    have h1 := own_set h o y
    have ih := own_setCells ys (o + 1) (w.setCell ⟨g, o, none⟩ (.int k y)) (xs.set o y) h1 (by rw [List.length_set]; omega)
    simp only [List.map_cons, World.setCells]
    have e1 : (xs.set o y).take (o + 1) = xs.take o ++ [y] := by
      rw [List.take_succ_eq_append_getElem (by rw [List.length_set]; omega), List.getElem_set_self, List.take_set_of_le (Nat.le_refl _)]
    have e2 : (xs.set o y).drop (o + 1 + ys.length) = xs.drop (o + (y :: ys).length) := by
      rw [List.drop_set_of_lt (by omega)]
      congr 1
      simp only [List.length_cons]
      omega
    rw [e1, e2] at ih
    simpa [List.append_assoc] using ih
theorem below_setCells {B g : Nat} (hg : B ≤ g) : ∀ (vs : List Value) (o : Nat) {w w' : World}, Below B w w' → Below B w (w'.setCells g o vs)
  | [], _, _, _, h => h
  | v :: vs, o, w, w', h => by
    simp only [World.setCells]
    exact below_setCells hg vs (o + 1) (h.setCell (p := ⟨g, o, none⟩) hg v)
theorem grown_setCells {g : Nat} {w0 : World} : ∀ (vs : List Value) (o : Nat) {w : World}, w0.grownBy w (some g) → w0.grownBy (w.setCells g o vs) (some g)
  | [], _, _, h => h
  | v :: vs, o, w, h => by
    simp only [World.setCells]
    refine grown_setCells vs (o + 1) ⟨h.os, h.tape, h.output, by simpa using h.size, fun k hk hne => ?_⟩
    rw [Below.heap_setCell _ _ _ _ (by simpa using hne)]
    exact h.block k hk hne
theorem own_shrink {k : IntKind} {w : World} {base e g n cap m : Nat} {xs : List Int} (h : OwnN k w base e (some ⟨g, 0, none⟩) n cap xs) (hm : m ≤ n) : OwnN k w base e (some ⟨g, 0, none⟩) m cap (xs.take m) := by
  have hl := owns_len h
  unfold OwnN at h ⊢
  refine ⟨by simp; omega, .inr ?_⟩
  rcases h.2 with ⟨hv, _⟩ | ⟨g', cap', cur, hv, hb, hh, h1, h2, h3, h4⟩
  · simp at hv
  · simp at hv
    obtain ⟨rfl, rfl⟩ := hv
    refine ⟨g, cap, cur, rfl, hb, hh, by omega, h2, h3, ?_⟩
    rw [Nat.mul_one] at h4 ⊢
    rw [List.map_take, ← h4, List.take_take, Nat.min_eq_left hm]
theorem own_cell {k : IntKind} {w : World} {base e g n cap : Nat} {xs : List Int} (h : OwnN k w base e (some ⟨g, 0, none⟩) n cap xs) (j : Nat) (hj : j < xs.length) : w.cell? ⟨g, j, none⟩ = some (.int k (xs.getD j 0)) := by
  obtain ⟨y, h1, h2⟩ := own_at h j hj
  rw [h1, h2.out]

theorem del_any (w : World) (base g n cap c : Nat) (xs : List Int) (h : OwnN .i64 w base 3 (some ⟨g, 0, none⟩) n cap xs) (hc : c < n) (i j : Int) (hi : i = (c : Int)) (hj : j = (c : Int) + 1) :
    Calls Try.prog 41 #[.slice (some ⟨g, 0, none⟩) n cap, .int .i64 i, .int .i64 j] w fun e w' => e = .returned (.slice (some ⟨g, 0, none⟩) (n - 1) cap) ∧
      OwnN .i64 w' base 3 (some ⟨g, 0, none⟩) (n - 1) cap (xs.eraseIdx c) ∧ w.grownBy w' (some g) := by
  have hl := owns_len h
  subst hi
  obtain rfl : j = ((c + 1 : Nat) : Int) := by omega
  refine (Go.Proofs.Any.slices_Delete_int_cells Try.delLays g 0 n cap c (c + 1) xs w (by omega) h.caps.1 (by have := h.caps.2; unfold maxLen at this; omega) (by omega) (by omega)
    (fun j hj => by rw [Nat.zero_add]; exact own_cell h j hj) (fun j hj => by rw [Nat.zero_add]; exact h.free j)).mono ?_
  rintro e w' ⟨rfl, q, rfl⟩
  obtain ⟨ys, hys⟩ : ∃ ys, ys = (xs.take n).take c ++ (xs.take n).drop (c + 1) ++ List.replicate (c + 1 - c) (0 : Int) := ⟨_, rfl⟩
  rw [← hys]
  have hlen : ys.length = n := by
    rw [hys]
    simp only [List.length_append, List.length_take, List.length_drop, List.length_replicate]
    omega
  have h0 : OwnN .i64 (w.drewN q) base 3 (some ⟨g, 0, none⟩) n cap xs := h
  have h1 := own_setCells ys 0 (w.drewN q) xs h0 (by rw [Nat.zero_add, hlen]; omega)
  rw [hlen] at h1
  simp only [List.take_zero, List.nil_append, Nat.zero_add] at h1
  rw [List.drop_of_length_le (by omega), List.append_nil] at h1
  have h2 := own_shrink h1 (m := n - 1) (by omega)
  refine ⟨by rw [show n - (c + 1 - c) = n - 1 by omega], ?_, grown_setCells _ 0 ⟨rfl, rfl, rfl, Nat.le_refl _, fun _ _ _ => rfl⟩⟩
  have e1 : ys.take (n - 1) = xs.eraseIdx c := by
    rw [hys, List.take_of_length_le (l := xs) (by omega), List.eraseIdx_eq_take_drop_succ, List.take_append_of_le_length (by simp only [List.length_append, List.length_take, List.length_drop]; omega), List.take_of_length_le (by simp only [List.length_append, List.length_take, List.length_drop]; omega)]
  rw [e1] at h2
  exact h2

theorem ownV_set {base e g n cap : Nat} : ∀ (ys : List Value) (o : Nat) (w : World) (cells : List Value), OwnR w base e 1 (some ⟨g, 0, none⟩) n cap cells → o + ys.length ≤ cells.length →
    OwnR (w.setCells g o ys) base e 1 (some ⟨g, 0, none⟩) n cap (cells.take o ++ ys ++ cells.drop (o + ys.length))
  | [], o, w, cells, h, _ => by simpa [World.setCells] using h
  | y :: ys, o, w, cells, h, hl => by
    simp only [List.length_cons] at hl
    have h1 : OwnR (w.setCell ⟨g, o, none⟩ y) base e 1 (some ⟨g, 0, none⟩) n cap (cells.set o y) := (World.ownsRow.stored h o y).1
    have ih := ownV_set ys (o + 1) (w.setCell ⟨g, o, none⟩ y) (cells.set o y) h1 (by rw [List.length_set]; omega)
    simp only [World.setCells]
    have e1 : (cells.set o y).take (o + 1) = cells.take o ++ [y] := by
      rw [List.take_succ_eq_append_getElem (by rw [List.length_set]; omega), List.getElem_set_self, List.take_set_of_le (Nat.le_refl _)]
    have e2 : (cells.set o y).drop (o + 1 + ys.length) = cells.drop (o + (y :: ys).length) := by
      rw [List.drop_set_of_lt (by omega)]
      congr 1
      simp only [List.length_cons]
      omega
    rw [e1, e2] at ih
    simpa [List.append_assoc] using ih
theorem own_full {k : IntKind} {w : World} {base e g n cap : Nat} {xs : List Int} (h : OwnN k w base e (some ⟨g, 0, none⟩) n cap xs) : ∃ cells, OwnR w base e 1 (some ⟨g, 0, none⟩) cap cap cells ∧ cells.take n = xs.map (Value.int k) := by
  rcases h.2 with ⟨hv, _⟩ | ⟨g', cap', cur, hv, hb, hh, h1, h2, h3, h4⟩
  · simp at hv
  · simp at hv
    obtain ⟨rfl, rfl⟩ := hv
    refine ⟨cur.toList, ⟨by simp [h3], .inr ⟨g, cap, cur, rfl, hb, hh, Nat.le_refl _, h2, h3, ?_⟩⟩, by simpa using h4⟩
    rw [List.take_of_length_le (by simp [h3])]
theorem ownV_shrink {w : World} {base e g n cap m : Nat} {cells : List Value} (h : OwnR w base e 1 (some ⟨g, 0, none⟩) n cap cells) (hm : m ≤ n) : OwnR w base e 1 (some ⟨g, 0, none⟩) m cap (cells.take m) := by
  have hl := OwnR.len h
  unfold OwnR at h ⊢
  refine ⟨by simp; omega, .inr ?_⟩
  rcases h.2 with ⟨hv, _⟩ | ⟨g', cap', cur, hv, hb, hh, h1, h2, h3, h4⟩
  · simp at hv
  · simp at hv
    obtain ⟨rfl, rfl⟩ := hv
    refine ⟨g, cap, cur, rfl, hb, hh, by omega, h2, h3, ?_⟩
    rw [Nat.mul_one] at h4 ⊢
    rw [← h4, List.take_take, Nat.min_eq_left hm]
theorem zero_size (z : Value) (n : Nat) (hz : z.cells.size = 1) : (Builtin.zeroCells z.cells n).size = n := by rw [size_zeroCells, hz, Nat.mul_one]
/-- a number is put ahead of all -/
theorem ins_any (w : World) (base n cap g c0 : Nat) (a : Option Addr) (xs : List Int) (x : Int) (h : OwnN .i64 w base 3 a n cap xs) (hb : base ≤ w.heap.size) (hn : n ≤ 70000)
    (hg : w.heap[g]? = some (.cells #[.int .i64 x] 3 (0, 0))) (hne : OI a n cap ≠ some g) :
    Calls Try.prog 30 #[.slice a n cap, .int .i64 0, .slice (some ⟨g, 0, none⟩) 1 c0] w fun e w' => ∃ a' cap', e = .returned (.slice a' (n + 1) cap') ∧
      OwnN .i64 w' base 3 a' (n + 1) cap' (x :: xs) ∧ w.grownBy w' (OI a n cap) ∧ (OI a' (n + 1) cap' = OI a n cap ∨ OI a' (n + 1) cap' = some w.heap.size) := by
  have hl := owns_len h
  have hcap := h.caps
  have hcv : ∀ j v, [Value.int .i64 x][j]? = some v → w.cell? ⟨g, 0 + j, none⟩ = some v := fun j v hj => by
    match j, hj with
    | 0, hj =>
      simp at hj
      subst hj
      simp [World.cell?, hg]
  have h1v : ∀ v ∈ [Value.int .i64 x], v.oneCell' = true := fun v hv => by simp at hv; subst hv; rfl
  have h1c : ∀ v ∈ xs.map (Value.int .i64), v.oneCell' = true := fun v hv => by obtain ⟨z, _, rfl⟩ := List.mem_map.1 hv; rfl
  have hmax : maxLen = 9223372036854775807 := rfl
  have fin : ∀ (w' : World) (C : Nat), n + 1 ≤ C → w.heap.size ≤ w'.heap.size → ∀ cells, OwnR w' base 3 1 (some ⟨w.heap.size, 0, none⟩) C C cells → cells.take (n + 1) = (x :: xs).map (Value.int .i64) → OwnN .i64 w' base 3 (some ⟨w.heap.size, 0, none⟩) (n + 1) C (x :: xs) := fun w' C hC hz cells ho he => by
    have h2 := ownV_shrink ho hC
    rw [he] at h2
    exact h2
  have hzs : (Value.int .i64 0).cells.size = 1 := rfl
  by_cases h0 : n = 0
  · subst h0
    have hx0 : xs = [] := List.eq_nil_of_length_eq_zero hl
    subst hx0
    by_cases hr : 0 + 1 ≤ cap
    · obtain ⟨gg, rfl⟩ : ∃ gg, a = some ⟨gg, 0, none⟩ := by
        rcases h.2 with ⟨hv, _⟩ | ⟨gg, cap', cur, hv, _⟩
        · simp at hv
          omega
        · simp at hv
          exact ⟨gg, hv.1⟩
      obtain ⟨cells, hf, _⟩ := own_full h
      have hfl := OwnR.len hf
      refine (Go.Proofs.Any2.slices_Insert_int_end_room Try.insLays gg 0 0 cap g 0 1 c0 [.int .i64 x] w (by omega) hr (by omega) rfl (fun j hj => ?_) (fun j hj => ?_) hcv h1v).mono ?_
      · rw [show 0 + 0 + j = j by omega, OwnR.cell hf j (by omega)]
        simp
        omega
      · exact OwnR.free hf _
      · rintro e w' ⟨rfl, rfl⟩
        have h2 := ownV_set [.int .i64 x] 0 w cells hf (by simp; omega)
        have h3 := ownV_shrink h2 (m := 1) (by omega)
        refine ⟨_, cap, rfl, ?_, grown_setCells _ _ ⟨rfl, rfl, rfl, Nat.le_refl _, fun _ _ _ => rfl⟩, .inl rfl⟩
        show OwnR _ _ _ 1 _ _ _ ([x].map (Value.int .i64))
        simpa using h3
    · have hc0 : cap = 0 := by omega
      subst hc0
      refine (Go.Proofs.Any2.slices_Insert_int_end_grow Try.insLays a 0 0 g 0 1 c0 [] [.int .i64 x] w (by omega) (by omega) (by omega) (by omega) rfl rfl (fun _ => rfl) (fun _ _ j v hj => by simp at hj) hcv h1v).mono ?_
      rintro e w' ⟨rfl, rfl⟩
      rw [show Try.insRen.t 3 = 3 from rfl]
      have hge := grownCap_ge w (0 + 1) 0 3
      have hle := grownCap_le_maxLen w (0 + 1) 0 3 (by omega)
      obtain ⟨C, hC⟩ : ∃ C, C = grownCap w (0 + 1) 0 3 := ⟨_, rfl⟩
      rw [← hC] at hge hle ⊢
      obtain ⟨arr, harr⟩ : ∃ arr, arr = (([] ++ [Value.int .i64 x]).toArray ++ Builtin.zeroCells (Value.int .i64 0).cells (C - (0 + 1))) := ⟨_, rfl⟩
      rw [← harr]
      have hasz : arr.size = C * 1 := by
        rw [harr, Array.size_append, zero_size _ _ hzs]
        show 1 + (C - (0 + 1)) = C * 1
        omega
      have h4 := World.ownsRow_lit (base := base) (e := 3) (size := 1) w.drew arr C hb hle hasz
      exact ⟨_, C, rfl, fin _ _ hge (by simp) _ h4 (by rw [harr]; simp), ⟨rfl, rfl, rfl, by simp, fun k hk _ => Below.heap_alloc w.drew _ k hk⟩, .inr rfl⟩
  · obtain ⟨gg, rfl, hgb, hgl⟩ := h.addr (by omega)
    obtain ⟨cells, hf, hft⟩ := own_full h
    have hfl := OwnR.len hf
    have hcs : ∀ j v, (xs.map (Value.int .i64))[j]? = some v → w.cell? ⟨gg, 0 + j, none⟩ = some v := fun j v hj => by
      have hjl : j < xs.length := by
        have := (List.getElem?_eq_some_iff.1 hj).1
        simpa using this
      rw [Nat.zero_add, own_cell h j hjl]
      simp [hjl] at hj
      subst hj
      simp [List.getD, hjl]
    by_cases hr : n + 1 ≤ cap
    · refine (Go.Proofs.Any2.slices_Insert_int_shift Try.insLays gg 0 n cap 0 g 0 1 c0 (xs.map (.int .i64)) [.int .i64 x] w (by omega) (by omega) hr (by omega) (fun e => hne (by subst e; rfl)) (by simp [hl]) rfl hcs (fun j hj => ?_) (fun j _ => OwnR.free hf _) hcv h1c h1v 3 3 1 cap ?_ ?_ (by omega) ?_ ?_).mono ?_
      · rw [Nat.zero_add, OwnR.cell hf j (by omega)]
        simp
        omega
      · simp [World.shape?, hg]
      · rcases hf.2 with ⟨hv, _⟩ | ⟨g', cap', cur, hv, hb, hh, _, _, h3, _⟩
        · simp at hv
        · simp at hv
          obtain ⟨rfl, rfl⟩ := hv
          simp [World.shape?, hh, h3]
      · simp [World.frozen?, hg]
      · simp [World.frozen?, hg]
      · rintro e w' ⟨rfl, rfl⟩
        have hf0 : OwnR w.drew base 3 1 (some ⟨gg, 0, none⟩) cap cap cells := hf
        have h2 := ownV_set (xs.map (Value.int .i64)) 1 w.drew cells hf0 (by simp; omega)
        have h3 := ownV_set [.int .i64 x] 0 _ _ h2 (by simp; omega)
        have h4 := ownV_shrink h3 (m := n + 1) hr
        refine ⟨_, cap, rfl, ?_, grown_setCells _ _ (grown_setCells _ _ ⟨rfl, rfl, rfl, Nat.le_refl _, fun _ _ _ => rfl⟩), .inl rfl⟩
        have e5 : List.take (n + 1) (List.take 0 (List.take 1 cells ++ xs.map (Value.int .i64) ++ List.drop (1 + (xs.map (Value.int .i64)).length) cells) ++ [Value.int .i64 x] ++ List.drop (0 + [Value.int .i64 x].length) (List.take 1 cells ++ xs.map (Value.int .i64) ++ List.drop (1 + (xs.map (Value.int .i64)).length) cells)) = (x :: xs).map (Value.int .i64) := by
          have hc1 : (List.take 1 cells).length = 1 := by simp; omega
          simp only [List.take_zero, List.nil_append, List.singleton_append, List.length_cons, List.length_nil, Nat.zero_add, List.append_assoc, List.map_cons, List.take_succ_cons]
          rw [List.drop_append_of_le_length (by omega), List.drop_of_length_le (by omega), List.nil_append, List.take_append_of_le_length (by simp; omega), List.take_of_length_le (by simp; omega)]
        rw [e5] at h4
        exact h4
    · refine (Go.Proofs.Any2.slices_Insert_int_grow Try.insLays gg 0 n cap 0 g 0 1 c0 (xs.map (.int .i64)) [.int .i64 x] w (by omega) (by omega) hcap.1 (by omega) (by omega) (by simp [hl]) rfl hcs hcv h1c h1v).mono ?_
      rintro e w' ⟨rfl, rfl⟩
      rw [show Try.insRen.t 3 = 3 from rfl]
      have hge := grownCap_ge w (n + 1) cap 3
      have hle := grownCap_le_maxLen w (n + 1) cap 3 (by omega)
      obtain ⟨C, hC⟩ : ∃ C, C = grownCap w (n + 1) cap 3 := ⟨_, rfl⟩
      rw [← hC] at hge hle ⊢
      obtain ⟨arr, harr⟩ : ∃ arr, arr = ((List.take 0 (xs.map (Value.int .i64))).toArray ++ Builtin.zeroCells (Value.int .i64 0).cells (n + 1 - 0) ++ Builtin.zeroCells (Value.int .i64 0).cells (C - (n + 1))) := ⟨_, rfl⟩
      rw [← harr]
      have hasz : arr.size = C * 1 := by
        rw [harr, Array.size_append, Array.size_append, zero_size _ _ hzs, zero_size _ _ hzs]
        simp
        omega
      have h4 : OwnR (w.alloc (.cells arr 3)).drew base 3 1 (some ⟨w.heap.size, 0, none⟩) C C arr.toList := World.ownsRow_lit (base := base) (e := 3) (size := 1) w arr C hb hle hasz
      have h5 := ownV_set [.int .i64 x] 0 _ _ h4 (by simp; omega)
      have h6 : OwnR (((w.alloc (.cells arr 3)).drew.setCells w.heap.size 0 [.int .i64 x]).drew) base 3 1 (some ⟨w.heap.size, 0, none⟩) C C _ := h5
      have h7 := ownV_set (xs.map (Value.int .i64)) 1 _ _ h6 (by simp; omega)
      have hal : arr.toList.length = C := by simp [hasz]
      have hg7 : w.grownBy (((w.alloc (.cells arr 3)).drew.setCells w.heap.size 0 [.int .i64 x]).drew.setCells w.heap.size 1 (xs.map (Value.int .i64))) (OI (some ⟨gg, 0, none⟩) n cap) := by
        have k0 : (w.alloc (.cells arr 3)).grownBy (((w.alloc (.cells arr 3)).drew.setCells w.heap.size 0 [.int .i64 x]).drew.setCells w.heap.size 1 (xs.map (Value.int .i64))) (some w.heap.size) := by
          refine grown_setCells _ _ ?_
          have k1 : (w.alloc (.cells arr 3)).grownBy ((w.alloc (.cells arr 3)).drew.setCells w.heap.size 0 [.int .i64 x]) (some w.heap.size) := grown_setCells _ _ ⟨rfl, rfl, rfl, Nat.le_refl _, fun _ _ _ => rfl⟩
          exact ⟨k1.os, k1.tape, k1.output, k1.size, k1.block⟩
        refine ⟨k0.os, k0.tape, k0.output, Nat.le_trans (by simp) k0.size, fun k hk _ => ?_⟩
        exact (k0.block k (by simp; omega) (fun e => by simp at e; omega)).trans (Below.heap_alloc _ _ k hk)
      refine ⟨_, C, rfl, fin _ _ hge ?_ _ h7 ?_, hg7, .inr rfl⟩
      · exact hg7.size
      · simp only [List.take_zero, List.nil_append, List.singleton_append, List.length_cons, List.length_nil, Nat.zero_add, List.append_assoc, List.map_cons, List.take_succ_cons, List.length_map]
        rw [List.take_append_of_le_length (by simp; omega), List.take_of_length_le (by simp; omega)]
end Go.Proofs.Ytfbddadnnpjjjaa
