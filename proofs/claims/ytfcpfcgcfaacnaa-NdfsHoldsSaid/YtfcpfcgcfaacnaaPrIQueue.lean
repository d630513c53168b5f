/- A list of numbers that a call owns and takes from in front: it mas begin inside of its row. Conditions: the bound on an append. -/
import Derived.Test.YtfcpfcgcfaacnaaMem
import Derived.Test.YtfcpfcgcfaacnaaCut
import Derived.Deep.AppendSrc
import Derived.Deep.Upon
namespace Go.Proofs.Ytfcpfcgcfaacnaa
open Go.RowKit

/-- a slice of numbers of the call's own, from any place of its row on -/
structure OwnIQ (w : World) (B : Nat) (a : Option Addr) (n c : Nat) (xs : List Int) : Prop where
  len : n = xs.length
  le : n ≤ c
  max : c ≤ maxLen
  row : 0 < c → ∃ g off, a = some ⟨g, off, none⟩ ∧ B ≤ g ∧ g < w.heap.size ∧ (∀ j, j < n → w.cell? ⟨g, off + j, none⟩ = some (.int .i64 (xs.getD j 0))) ∧ ∀ j, j < c → (w.cell? ⟨g, off + j, none⟩).isSome = true ∧ w.frozen? ⟨g, off + j, none⟩ = false
section
variable {w w' : World} {B n c : Nat} {a : Option Addr} {xs : List Int}
theorem OwnIQ.nil (w : World) (B : Nat) : OwnIQ w B none 0 0 [] := ⟨rfl, Nat.le_refl _, by unfold maxLen; omega, fun h => by omega⟩
theorem OwnIQ.nums (h : OwnIQ w B a n c xs) : NumsAt .i64 w a xs := by
  intro h0
  have h1 := h.len
  have h2 := h.le
  obtain ⟨g, off, ha, _, _, hc, _⟩ := h.row (by omega)
  exact ⟨g, off, ha, fun i hi => hc i (by omega)⟩
theorem OwnIQ.keeps {S : Nat → Prop} (h : OwnIQ w B a n c xs) (hk : Keeps w w' S) (hn : ∀ j, B ≤ j → j < w.heap.size → (Value.slice a n c).ownBlock = some j → ¬ S j) : OwnIQ w' B a n c xs := by
  refine ⟨h.len, h.le, h.max, fun h0 => ?_⟩
  obtain ⟨g, off, rfl, h1, h2, h3, h4⟩ := h.row h0
  have hb := hk.block g h2 (hn g h1 h2 rfl)
  refine ⟨g, off, rfl, h1, Nat.lt_of_lt_of_le h2 hk.size, fun j hj => ?_, fun j hj => ?_⟩
  · rw [World.cell?_of_block (a := ⟨g, off + j, none⟩) hb]; exact h3 j hj
  · rw [World.cell?_of_block (a := ⟨g, off + j, none⟩) hb, World.frozen?_of_block (a := ⟨g, off + j, none⟩) hb]; exact h4 j hj
theorem OwnIQ.below (h : OwnIQ w B a n c xs) (hb : Below w.heap.size w w') : OwnIQ w' B a n c xs := h.keeps (S := fun _ => False) (Keeps.of_below hb) (fun _ _ _ _ h => h)
/-- the first one is taken off -/
theorem OwnIQ.tail {x : Int} (h : OwnIQ w B a n c (x :: xs)) : OwnIQ w B (cutA a c 1 1) (n - 1) (c - 1) xs := by
  have h1 := h.len
  have h2 := h.le
  have h3 := h.max
  simp only [List.length_cons] at h1
  refine ⟨by omega, by omega, by omega, fun h0 => ?_⟩
  obtain ⟨g, off, rfl, k1, k2, k3, k4⟩ := h.row (by omega)
  rw [cutA_at (by omega)]
  refine ⟨g, off + 1, rfl, k1, k2, fun j hj => ?_, fun j hj => ?_⟩
  · have := k3 (j + 1) (by omega)
    rw [show off + 1 + j = off + (j + 1) by omega, this]
    simp [List.getD]
  · have := k4 (j + 1) (by omega)
    rw [show off + 1 + j = off + (j + 1) by omega]
    exact this
theorem OwnIQ.blk {j : Nat} (h : OwnIQ w B a n c xs) (h0 : 0 < c) (hj : (Value.slice a n c).ownBlock = some j) : B ≤ j ∧ j < w.heap.size := by
  obtain ⟨g, off, rfl, k1, k2, _⟩ := h.row h0
  simp [Value.ownBlock] at hj
  subst hj
  exact ⟨k1, k2⟩
end

theorem some_setCells (b : Nat) : ∀ (vs : List Value) (o : Nat) (w : World) (x : Addr), (w.cell? x).isSome = true → ((w.setCells b o vs).cell? x).isSome = true
  | [], _, _, _, h => h
  | v :: vs, o, w, x, h => some_setCells b vs (o + 1) _ x (by
    by_cases e : x = ⟨b, o, none⟩
    · subst e
      obtain ⟨u, hu⟩ := Option.isSome_iff_exists.1 h
      rw [World.cell?_setCell_same w ⟨b, o, none⟩ v hu]
      rfl
    · rw [World.cell?_setCell_other _ _ _ _ (fun (e2 : (⟨b, o, none⟩ : Addr) = x) => e e2.symm)]
      exact h)
theorem tape_setCells (b : Nat) : ∀ (vs : List Value) (o : Nat) (w : World), (w.setCells b o vs).tape = w.tape
  | [], _, _ => rfl
  | v :: vs, o, w => (tape_setCells b vs (o + 1) (w.setCell ⟨b, o, none⟩ v)).trans rfl
theorem frozen_new (w : World) (cs : Array Value) (e j : Nat) : (w.alloc (.cells cs e)).frozen? ⟨w.heap.size, j, none⟩ = false := by
  have hb := heap_alloc_new w (.cells cs e)
  generalize w.alloc (.cells cs e) = w' at hb ⊢
  simp [World.frozen?, hb]
section
variable {P : Program} {w : World} {B n c : Nat} {a : Option Addr} {xs : List Int}
theorem add_at (b off j : Nat) : (⟨b, off, none⟩ : Addr).add j = ⟨b, off + j, none⟩ := add_off b off j
theorem nums_cells {ay : Option Addr} {ys : List Int} {b off : Nat} (_ha : ay = some ⟨b, off, none⟩) (hc : ∀ i, i < ys.length → w.cell? ⟨b, off + i, none⟩ = some (.int .i64 (ys.getD i 0))) : ∀ j u, (ys.map (Value.int .i64))[j]? = some u → w.cell? ((⟨b, off, none⟩ : Addr).add j) = some u := by
  intro j u hj
  have hlt : j < ys.length := by
    have := (List.getElem?_eq_some_iff.1 hj).1
    simpa using this
  rw [add_at, hc j hlt]
  simp only [List.getElem?_map, List.getElem?_eq_getElem hlt, Option.map_some] at hj
  simp only [List.getD, List.getElem?_eq_getElem hlt, Option.getD_some]
  exact hj
theorem run_appIQ (h : OwnIQ w B a n c xs) (hB : B ≤ w.heap.size) (t ty e : TypeId) (i : TypeInfo) (ht : P.underlying t = some (.slice e)) (hi : P.info? e = some i) (hz : i.zero = some (.int .i64 0)) (hs : i.size = 1) (hby : i.bytes = 8)
    (ay : Option Addr) (m cs : Nat) (ys : List Int) (hm : m = ys.length) (hy : NumsAt .i64 w ay ys) (hbytes : (n + m) * 8 ≤ 140737488355328) :
    ∃ a' c' w', (Builtin.append_ #[t, t] ty #[.slice a n c, .slice ay m cs]).run P w = .ok (.slice a' (n + m) c') w' ∧ OwnIQ w' B a' (n + m) c' (xs ++ ys) ∧ Keeps w w' (fun j => 0 < c ∧ (Value.slice a n c).ownBlock = some j) := by
  have h1 := h.len
  have h2 := h.le
  have h3 := h.max
  by_cases hm0 : m = 0
  · subst hm0
    obtain rfl : ys = [] := List.eq_nil_of_length_eq_zero hm.symm
    have hsrc : Src P i.size t (.slice ay 0 cs) 0 [] w := by
      cases ay with
      | none => exact Src.ofNil w ht cs
      | some ad => exact Src.ofSlice w ht ad 0 cs [] (by simp) (fun j u hj => by simp at hj) (fun u hu => by simp at hu)
    exact ⟨a, c, w, run_append_nothing w t t ty e i ht hi a n c h2 _ hsrc, by simpa using h, Keeps.refl _ _⟩
  · obtain ⟨b2, off2, ha2, hc2⟩ := hy (by omega)
    subst ha2
    have hnl : (ys.map (Value.int .i64)).length = m := by simp [hm]
    have hone : ∀ u ∈ ys.map (Value.int .i64), u.oneCell' = true := fun u hu => by
      obtain ⟨z, _, rfl⟩ := List.mem_map.1 hu
      rfl
    have hsrc : Src P i.size t (.slice (some ⟨b2, off2, none⟩) m cs) m (ys.map (Value.int .i64)) w := Src.ofSlice w ht ⟨b2, off2, none⟩ m cs _ (by rw [hnl, hs, Nat.mul_one]) (nums_cells rfl hc2) hone
    by_cases hroom : n + m ≤ c
    · obtain ⟨g, off, rfl, k1, k2, k3, k4⟩ := h.row (by omega)
      have hsome : ∀ j, j < (ys.map (Value.int .i64)).length → (w.cell? ⟨g, off + n * i.size + j, none⟩).isSome = true := fun j hj => by
        rw [hs, Nat.mul_one, Nat.add_assoc]
        exact (k4 (n + j) (by omega)).1
      have hr := run_append_room_src (P := P) w t t ty e i ht hi g off n c _ m _ hsrc hroom hsome (fun j hj => by
        rw [hs, Nat.mul_one, Nat.add_assoc]
        exact (k4 (n + j) (by omega)).2)
      refine ⟨_, c, _, hr, ⟨by simp [h1, hm], hroom, h3, fun _ => ⟨g, off, rfl, k1, ?_, fun j hj => ?_, fun j hj => ?_⟩⟩, ?_⟩
      · have := (World.keptBut_setCells g (may := fun _ => True) (ys.map (Value.int .i64)) (off + n * i.size) w (fun _ _ => trivial)).size
        omega
      · by_cases hjn : j < n
        · rw [World.cell?_setCells_out g _ _ w ⟨g, off + j, none⟩ (fun _ _ => .inl (by simp only; rw [hs]; omega)), k3 j hjn]
          simp only [List.getD, List.getElem?_append_left (show j < xs.length by omega)]
        · have hj2 : j - n < (ys.map (Value.int .i64)).length := by omega
          have hin := World.cell?_setCells_in g (ys.map (Value.int .i64)) (off + n * i.size) w hsome (j - n) hj2
          rw [show off + n * i.size + (j - n) = off + j by rw [hs]; omega] at hin
          rw [hin]
          simp only [List.getElem_map, List.getD, List.getElem?_append_right (show xs.length ≤ j by omega), ← h1]
          rw [List.getElem?_eq_getElem (by simpa using hj2)]
          rfl
      · exact ⟨some_setCells g _ _ w _ (k4 j hj).1, by rw [World.frozen?_setCells]; exact (k4 j hj).2⟩
      · have hkb := World.keptBut_setCells g (may := fun _ => True) (ys.map (Value.int .i64)) (off + n * i.size) w (fun _ _ => trivial)
        refine ⟨World.os_setCells _ _ _ _, ?_, World.output_setCells _ _ _ _, hkb.size, fun j hj hn => World.heap_setCells_other _ _ _ _ hj (fun e => hn ⟨by omega, by rw [e]; rfl⟩)⟩
        exact tape_setCells g _ _ w
    · have hold : (Builtin.firstCells i.size n (.slice a n c)).run P w.drew = .ok (xs.map (Value.int .i64)).toArray w.drew := by
        by_cases hc0 : 0 < c
        · obtain ⟨g, off, rfl, k1, k2, k3, k4⟩ := h.row hc0
          exact run_firstCells_some w.drew i.size n ⟨g, off, none⟩ n c _ (by simp [h1, hs]) (fun j u hj => by simpa using nums_cells (w := w) (ys := xs) rfl (fun i hi => k3 i (by omega)) j u hj)
        · obtain rfl : n = 0 := by omega
          obtain rfl : xs = [] := List.eq_nil_of_length_eq_zero h1.symm
          cases a with
          | none => exact run_firstCells_none _ _ _ _ _
          | some ad => exact run_firstCells_some w.drew i.size 0 ad 0 c [] (by simp) (fun j u hj => by simp at hj)
      have hr := run_append_grow_src (P := P) w t t ty e i (.int .i64 0) ht hi hz a n c _ hold _ m _ hsrc (by omega) (by omega) (by rw [hby]; exact growslice_fits (by omega) hbytes)
      have hge := grownCap_ge w (n + m) c e
      have hml : n + m ≤ maxLen := by unfold maxLen; omega
      have hle := grownCap_le_maxLen w (n + m) c e hml
      have hcs : ((xs.map (Value.int .i64) ++ ys.map (Value.int .i64)).toArray ++ Builtin.zeroCells (Value.int .i64 0).cells (grownCap w (n + m) c e - (n + m))).size = grownCap w (n + m) c e := by
        simp only [Array.size_append, List.size_toArray, List.length_append, List.length_map, size_zeroCells, Value.cells]
        simp
        omega
      have hnew : ∀ j, (w.drew.alloc (.cells ((xs.map (Value.int .i64) ++ ys.map (Value.int .i64)).toArray ++ Builtin.zeroCells (Value.int .i64 0).cells (grownCap w (n + m) c e - (n + m))) e)).cell? ⟨w.heap.size, j, none⟩ = ((xs.map (Value.int .i64) ++ ys.map (Value.int .i64)).toArray ++ Builtin.zeroCells (Value.int .i64 0).cells (grownCap w (n + m) c e - (n + m)))[j]? := fun j => World.cell?_alloc_at _ _ _ _ rfl
      refine ⟨_, _, _, hr, ⟨by simp [h1, hm], hge, hle, fun _ => ⟨w.heap.size, 0, rfl, hB, by simp, fun j hj => ?_, fun j hj => ?_⟩⟩, ?_⟩
      · rw [Nat.zero_add, hnew]
        have hjl : j < (xs ++ ys).length := by simp; omega
        have hjl' : j < (xs.map (Value.int .i64) ++ ys.map (Value.int .i64)).length := by simpa using hjl
        rw [Array.getElem?_append_left (by simpa using hjl'), List.getElem?_toArray, ← List.map_append, List.getElem?_map, List.getElem?_eq_getElem hjl]
        simp only [Option.map_some, List.getD, List.getElem?_eq_getElem hjl, Option.getD_some]
      · rw [Nat.zero_add]
        refine ⟨?_, ?_⟩
        · rw [hnew, Array.getElem?_eq_getElem (by omega)]
          rfl
        · exact frozen_new w.drew _ e j
      · exact ⟨rfl, rfl, rfl, by simp, fun k hk _ => Below.heap_alloc w.drew _ k hk⟩
end
section
variable {P : Program} {w : World} {ops : Array Oper} {rest : List Oper} {o : Oper} {act : Act} {Q : Exit → Act → World → Prop}
/-- 'append(q, ys...)' -/
theorem wp_appIQ (hgd : o.guard = none) (s x : Operand) (t e : TypeId)
    (ho : o.op = .call { callee := .builtin .append, args := #[s, x], argTypes := #[t, t] }) (ht : P.underlying t = some (.slice e))
    (hi : (P.info? e).map (fun i => (i.zero, i.size, i.bytes)) = some (some (.int .i64 0), 1, 8)) (B : Nat)
    (a : Option Addr) (n c : Nat) (xs : List Int) (hs : act.eval s = .slice a n c) (hown : OwnIQ w B a n c xs) (hB : B ≤ w.heap.size)
    (ay : Option Addr) (m cy : Nat) (ys : List Int) (hx : act.eval x = .slice ay m cy) (hm : m = ys.length) (hy : NumsAt .i64 w ay ys) (hbytes : (n + m) * 8 ≤ 140737488355328)
    (h : ∀ a' c' w', OwnIQ w' B a' (n + m) c' (xs ++ ys) → Keeps w w' (fun j => 0 < c ∧ (Value.slice a n c).ownBlock = some j) → wpList P ops Q rest (act.put o.dst (.slice a' (n + m) c')) w') :
    wpList P ops Q (o :: rest) act w := by
  obtain ⟨i, k1, k2, k3, k4⟩ := info_parts hi
  obtain ⟨a', c', w', hr, h1, h2⟩ := run_appIQ (P := P) hown hB t o.type e i ht k1 k2 k3 k4 ay m cy ys hm hy hbytes
  refine wpList_plain hgd fun _ hK => ?_
  refine ?_
  unfold Oper.wp execOp
  simp only [ho, resolve, invoke, builtin, Sem.run_bind, Sem.run_pure, Result.andThen_ok, List.map_toArray, List.map_cons, List.map_nil, hs, hx, hr]
  exact hK _ _ (h a' c' w' h1 h2)
end
end Go.Proofs.Ytfcpfcgcfaacnaa
