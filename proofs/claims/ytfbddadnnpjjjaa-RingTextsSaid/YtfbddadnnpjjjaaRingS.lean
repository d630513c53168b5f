/- A queue of texts in memory: New, Len, full, Put, out, Take; and two slices of the same texts held against one another. Conditions: few texts. -/
import Derived.Test.YtfbddadnnpjjjaaRingLib
namespace Go.Proofs
open Go.Shelf
def Try.delRenS : Go.Shelf.Ren := ⟨fun | 24 => 46 | n => n, fun | 24 => 45 | 9 => 9 | 3 => 3 | 4 => 4 | 0 => 0 | n => n, fun | n => n⟩
theorem Try.delLaysS : Go.Proofs.Lays2.n24 Try.prog Try.delRenS := {
  mixed := by kernel_rfl
  f24 := Try.func46.trans (congrArg some (by kernel_rfl))
  t0 := Try.underlying0
  a0 := Try.isAgg0
  z0 := Try.sizeOf0
  v0 := Try.zeroValue0
  t3 := Try.underlying3
  a3 := Try.isAgg3
  z3 := Try.sizeOf3
  v3 := Try.zeroValue3
  t4 := Try.underlying4
  a4 := Try.isAgg4
  z4 := Try.sizeOf4
  v4 := Try.zeroValue4
  t9 := Try.underlying9
  a9 := Try.isAgg9
  z9 := Try.sizeOf9
  v9 := Try.zeroValue9
  t24 := Try.underlying45
  a24 := Try.isAgg45
  z24 := Try.sizeOf45
  v24 := Try.zeroValue45
  i9 := by kernel_rfl }
end Go.Proofs
namespace Go.Proofs.Ytfbddadnnpjjjaa
open Go.RowKit

abbrev TQS : Nat := 64
def strs (xs : List ByteArray) : List Value := xs.map Value.string
theorem strs_len (xs : List ByteArray) : (strs xs).length = xs.length := by simp [strs]
/-- texts at an address -/
def StrsAt (w : World) (a : Option Addr) (xs : List ByteArray) : Prop := ∀ i, i < xs.length → ∃ b off, a = some ⟨b, off, none⟩ ∧ w.cell? ⟨b, off + i, none⟩ = some (.string (xs.getD i ⟨#[]⟩))
theorem StrsAt.below {w w' : World} {a : Option Addr} {xs : List ByteArray} (h : StrsAt w a xs) (hb : Below w.heap.size w w') : StrsAt w' a xs := fun i hi => by
  obtain ⟨b, off, ha, hc⟩ := h i hi
  exact ⟨b, off, ha, bcell hb hc⟩
theorem StrsAt.of_rSl {w : World} {v : Value} {xs : List ByteArray} (h : rSl 1 16 rStr w [v] xs) : ∃ a cap, v = .slice a xs.length cap ∧ StrsAt w a xs := by
  obtain ⟨a, cap, h1, _, _, _, h5⟩ := h
  refine ⟨a, cap, by simpa using h1, fun i hi => ?_⟩
  obtain ⟨b, off, ha, hc⟩ := h5 (by omega)
  obtain ⟨vs, _, hv, hr, _⟩ := hc i hi
  have h0 := hv 0 (by omega)
  rw [hr] at h0
  refine ⟨b, off, ha, ?_⟩
  simp at h0
  rw [h0]
  simp [List.getD, hi]
theorem StrsAt.of_own {w : World} {base e n cap : Nat} {a : Option Addr} {xs : List ByteArray} (h : OwnR w base e 1 a n cap (strs xs)) : StrsAt w a xs := fun i hi => by
  have hl := OwnR.len h
  rw [strs_len] at hl
  obtain ⟨g, rfl, h1, h2⟩ := OwnR.addr h (by omega)
  refine ⟨g, 0, rfl, ?_⟩
  rw [Nat.zero_add, OwnR.cell h i (by omega)]
  simp [strs, List.getD, hi]
/-- a queue of texts that New made -/
structure QSt (w : World) (B q : Nat) (m : Int) (a : Option Addr) (c : Nat) (xs : List ByteArray) : Prop where
  box : RowAt w q TQS [.bool true, .int .i64 m, .slice a xs.length c]
  own : OwnR w B 9 1 a xs.length c (strs xs)
  ne : OI a xs.length c ≠ some q
  hq : B ≤ q
section
variable {w w' : World} {B q c : Nat} {m : Int} {a : Option Addr} {xs : List ByteArray}
theorem QSt.below (h : QSt w B q m a c xs) (hb : Below w.heap.size w w') : QSt w' B q m a c xs :=
  ⟨h.box.below hb, h.own.keeps (S := fun _ => False) (Keeps.of_below hb) (fun _ _ h => h), h.ne, h.hq⟩
end
theorem snew_any (w : World) (m : Int) (hm : 0 ≤ m ∧ m ≤ 65536) :
    Calls Try.prog 22 #[.int .i64 m] w fun e w' => e = .returned (.pointer (some ⟨w.heap.size, 0, none⟩)) ∧ QSt w' w.heap.size w.heap.size m none 0 [] ∧ Below w.heap.size w w' := by
  have hr : Hid (∀ r, m = r → QSt (w.alloc (.cells #[.bool true, .int .i64 r, .slice none 0 0] TQS)) w.heap.size w.heap.size m none 0 []) := fun r hr => by
    rw [hr]
    exact ⟨RowAt.new #[.bool true, .int .i64 r, .slice none 0 0] rfl, OwnR.nil _ _ _ _, by simp [OI, Value.ownBlock], Nat.le_refl _⟩
  go_enter Try.func22, Try.ntmps22
  go_wp2
  all_goals
    go_ret
    exact ⟨rfl, hr.out _ (by omega), balloc (Below.refl _ _) _⟩
theorem slen_any (w : World) (B q : Nat) (m : Int) (a : Option Addr) (c : Nat) (xs : List ByteArray) (h : QSt w B q m a c xs) :
    Calls Try.prog 27 #[.pointer (some ⟨q, 0, none⟩)] w fun e w' => e = .returned (.int .i64 xs.length) ∧ w = w' := by
  have c2 : w.cell? ⟨q, 2, none⟩ = some (.slice a xs.length c) := h.box.cell 2
  clear h
  go_enter Try.func27, Try.ntmps27
  go_wp2
  go_ret
  exact ⟨rfl, rfl⟩
theorem sfull_any (w : World) (B q : Nat) (m : Int) (a : Option Addr) (c : Nat) (xs : List ByteArray) (h : QSt w B q m a c xs) :
    Calls Try.prog 34 #[.pointer (some ⟨q, 0, none⟩)] w fun e w' => e = .returned (.bool (decide (m ≤ (xs.length : Int)))) ∧ Quiet w w' := by
  have c0 : w.cell? ⟨q, 0, none⟩ = some (.bool true) := h.box.cell 0
  have c1 : w.cell? ⟨q, 1, none⟩ = some (.int .i64 m) := h.box.cell 1
  have c2 : w.cell? ⟨q, 2, none⟩ = some (.slice a xs.length c) := h.box.cell 2
  clear h
  go_enter Try.func34, Try.ntmps34
  go_wp2
  go_quiet (fail)
  go_wp2
  go_ret
  exact ⟨rfl, Quiet.one _ _⟩
theorem infoSt : (Try.prog.info? 9).map (fun i => (i.zero, i.size, i.bytes)) = some (some (.string ⟨#[]⟩), 1, 16) := by kernel_rfl
theorem Keeps.belowS {w w' W : World} {B q c : Nat} {m : Int} {a : Option Addr} {xs : List ByteArray} (h : Keeps w w' (fun j => j = q ∨ OI a xs.length c = some j)) (hq : QSt w B q m a c xs) (hb : Below W.heap.size W w) (hB : W.heap.size ≤ B) : Below W.heap.size W w' :=
  h.below hb (fun j hj => by
    rcases hj with rfl | hj
    · exact Nat.le_trans hB hq.hq
    · exact Nat.le_trans hB (hq.own.lt hj).1)
set_option maxHeartbeats 1000000 in
theorem sput_yes (w : World) (B q : Nat) (m : Int) (a : Option Addr) (c : Nat) (xs : List ByteArray) (h : QSt w B q m a c xs) (hm : (xs.length : Int) < m) (hx : xs.length ≤ 70000) (x : ByteArray) :
    Calls Try.prog 23 #[.pointer (some ⟨q, 0, none⟩), .string x] w fun e w' => ∃ a' c', e = .returned (.bool true) ∧ QSt w' B q m a' c' (xs ++ [x]) ∧ Keeps w w' (fun j => j = q ∨ OI a xs.length c = some j) := by
  have F := sfull_any w B q m a c xs h
  rw [decide_eq_false (by omega)] at F
  replace F := Lib.hid F
  obtain ⟨n, hn⟩ : ∃ n, n = xs.length := ⟨_, rfl⟩
  have hb := h.box
  have ho := h.own
  have hne := h.ne
  have hq := h.hq
  have hql := hb.lt
  rw [← hn] at hb ho hne hx ⊢
  replace hn := Lib.hid hn
  replace hb := Lib.hid hb
  replace ho := Lib.hid ho
  replace hne := Lib.hid hne
  clear h hm
  go_enter Try.func23, Try.ntmps23
  go_wp2_with fail
  refine F.out.mono ?_
  rintro e w1 ⟨rfl, k, rfl⟩
  have c2 : (w.drewN k).cell? ⟨q, 2, none⟩ = some (.slice a n c) := hb.out.cell 2
  have OW : Hid (OwnR ((w.drewN k).alloc (.cells #[.string x] 9)) B 9 1 a n c (strs xs)) := OwnR.alloc (w := w.drewN k) ho.out _
  have NC : Hid (∀ j u, [Value.string x][j]? = some u → ((w.drewN k).alloc (.cells #[.string x] 9)).cell? ((⟨w.heap.size, 0, none⟩ : Addr).add j) = some u) := new_cells (w.drewN k) #[.string x] 9 rfl
  have OC : Hid (∀ u ∈ [Value.string x], u.oneCell' = true) := by intro u hu; simp at hu; subst hu; rfl
  have n5 : Hid (n + 1 ≤ maxLen) := by show _ ≤ _; unfold maxLen; omega
  have y5 : Hid ((n + 1) * 16 ≤ 140737488355328) := by show _ ≤ _; omega
  have x5 : Hid (B ≤ ((w.drewN k).alloc (.cells #[.string x] 9)).heap.size) := by show _ ≤ _; simp; omega
  clear F
  go_wp2_with (at_builtin; refine wp_appR rfl _ _ 45 9 (.string ⟨#[]⟩) 1 16 rfl Try.underlying45 infoSt rfl (by decide) B a n c (strs xs) rfl OW.out w.heap.size 1 [.string x] rfl rfl NC.out OC.out n5.out y5.out x5.out ?_)
  intro a' c' w5 ho5 hg5 hat5
  have hA : Keeps w ((w.drewN k).alloc (.cells #[.string x] 9)) (fun j => OI a n c = some j) := Keeps.of_below (balloc (bdrewN (Below.refl _ _) k) _)
  have hk5 : Keeps w w5 (fun j => OI a n c = some j) := hA.trans (Keeps.of_grown (S := fun j => OI a n c = some j) hg5 (fun j e => e)) (fun _ _ h => h)
  have r5 : RowAt w5 q TQS [.bool true, .int .i64 m, .slice a n c] := hb.out.keeps hk5 (fun e => hne.out e)
  have d2 : w5.cell? ⟨q, 2, none⟩ = some (.slice a n c) := r5.cell 2
  have f2 := r5.free 2
  have hks : Keeps w5 (w5.setCell ⟨q, 2, none⟩ (.slice a' (n + 1) c')) (fun j => j = q) := Keeps.set w5 q 2 _ rfl
  have hne5 : OI a' (n + 1) c' ≠ some q := fun e => by
    rcases hat5 with h1 | h1
    · exact hne.out (h1.symm.trans e)
    · have h2 := Option.some.inj (h1.symm.trans e)
      have := hA.size
      omega
  have hQ : Hid (QSt (w5.setCell ⟨q, 2, none⟩ (.slice a' (n + 1) c')) B q m a' c' (xs ++ [x])) := by
    have e : (xs ++ [x]).length = n + 1 := by rw [List.length_append, ← hn.out]; rfl
    refine ⟨?_, ?_, ?_, hq⟩
    · rw [e]
      exact r5.set 2 _
    · rw [e, show strs (xs ++ [x]) = strs xs ++ [.string x] by simp [strs]]
      exact ho5.keeps hks (fun j hj ej => by subst ej; exact hne5 hj)
    · rw [e]
      exact hne5
  have hK : Hid (Keeps w (w5.setCell ⟨q, 2, none⟩ (.slice a' (n + 1) c')) (fun j => j = q ∨ OI a n c = some j)) :=
    Keeps.trans (S1 := fun j => j = q) ⟨hk5.os, hk5.tape, hk5.output, hk5.size, fun j hj hs => hk5.block j hj (fun e => hs (.inr e))⟩ hks (fun j _ e => .inl e)
  replace hk5 := Lib.hid hk5
  replace r5 := Lib.hid r5
  replace hks := Lib.hid hks
  clear OW NC OC n5 y5 x5 ho5 hg5 hat5 hA c2
  go_wp2
  go_ret
  exact ⟨a', c', rfl, hQ.out, hK.out⟩
theorem strsOf_strs (xs : List ByteArray) : (Lib.strsOf (fun i => xs.getD i ⟨#[]⟩) xs.length).map encStr = strs xs := by
  apply List.ext_getElem
  · simp [Lib.strsOf, strs]
  · intro i h1 h2
    have hi : i < xs.length := by rw [strs_len] at h2; exact h2
    simp [Lib.strsOf, strs, encStr, List.getD, hi]
/-- the first text is taken out of a row of the call's own -/
theorem sdel_any (w : World) (base g n cap : Nat) (xs : List ByteArray) (h : OwnR w base 9 1 (some ⟨g, 0, none⟩) n cap (strs xs)) (hc : 0 < n) :
    Calls Try.prog 46 #[.slice (some ⟨g, 0, none⟩) n cap, .int .i64 0, .int .i64 1] w fun e w' => e = .returned (.slice (some ⟨g, 0, none⟩) (n - 1) cap) ∧
      OwnR w' base 9 1 (some ⟨g, 0, none⟩) (n - 1) cap (strs (xs.eraseIdx 0)) ∧ w.grownBy w' (some g) := by
  have hl : n = xs.length := by have := OwnR.len h; rw [strs_len] at this; omega
  have hcap := h.caps
  have hmax : maxLen = 9223372036854775807 := rfl
  refine (Go.Proofs.Any.slices_Delete_string_cells Try.delLaysS g 0 n cap 0 1 (fun i => xs.getD i ⟨#[]⟩) w hcap.1 (by omega) (by omega) (by omega)
    (fun j hj => by rw [Nat.zero_add, OwnR.cell h j (by omega)]; simp [strs, List.getD, show j < xs.length by omega]) (fun j hj => by rw [Nat.zero_add]; exact h.free j)).mono ?_
  rintro e w' ⟨rfl, q, rfl⟩
  obtain ⟨ys, hys⟩ : ∃ ys, ys = (((Lib.strsOf (fun i => xs.getD i ⟨#[]⟩) n).take 0 ++ (Lib.strsOf (fun i => xs.getD i ⟨#[]⟩) n).drop 1 ++ List.replicate (1 - 0) []).map encStr) := ⟨_, rfl⟩
  rw [← hys]
  have hys2 : ys = strs (xs.drop 1) ++ [encStr []] := by
    rw [hys, hl, List.take_zero, List.nil_append, List.map_append, List.map_drop, strsOf_strs]
    simp [strs, List.map_drop]
  have hlen : ys.length = n := by rw [hys2, List.length_append, strs_len, List.length_drop, List.length_singleton]; omega
  have h0 : OwnR (w.drewN q) base 9 1 (some ⟨g, 0, none⟩) n cap (strs xs) := h
  have h1 := ownV_set ys 0 (w.drewN q) (strs xs) h0 (by rw [Nat.zero_add, hlen, strs_len]; omega)
  have h2 := ownV_shrink h1 (m := n - 1) (by omega)
  refine ⟨by rw [show n - (1 - 0) = n - 1 by omega], ?_, grown_setCells _ 0 ⟨rfl, rfl, rfl, Nat.le_refl _, fun _ _ _ => rfl⟩⟩
  have e1 : ((strs xs).take 0 ++ ys ++ (strs xs).drop (0 + ys.length)).take (n - 1) = strs (xs.eraseIdx 0) := by
    rw [hlen, Nat.zero_add, List.drop_of_length_le (by rw [strs_len]; omega), List.take_zero, List.nil_append, List.append_nil, hys2, List.eraseIdx_zero, ← List.drop_one]
    rw [List.take_append_of_le_length (by rw [strs_len, List.length_drop]; omega), List.take_of_length_le (by rw [strs_len, List.length_drop]; omega)]
  rw [e1] at h2
  exact h2
set_option maxHeartbeats 1000000 in
theorem sout_yes (w : World) (B q : Nat) (m : Int) (a : Option Addr) (c : Nat) (x : ByteArray) (xs : List ByteArray) (h : QSt w B q m a c (x :: xs)) (hx : xs.length ≤ 70000) :
    Calls Try.prog 38 #[.pointer (some ⟨q, 0, none⟩), .int .i64 0] w fun e w' => ∃ a' c', e = .returned (.tuple #[.string x, .bool true]) ∧ QSt w' B q m a' c' xs ∧ Keeps w w' (fun j => j = q ∨ OI a (xs.length + 1) c = some j) := by
  have F := slen_any w B q m a c _ h
  obtain ⟨n, hn⟩ : ∃ n, n = (x :: xs).length := ⟨_, rfl⟩
  have hb := h.box
  have ho := h.own
  have hne := h.ne
  have hq := h.hq
  have hql := hb.lt
  have hn1 : n = xs.length + 1 := hn
  rw [← hn] at hb ho hne F
  rw [← hn1]
  replace F := Lib.hid F
  obtain ⟨g, rfl, hgB, hgl⟩ := OwnR.addr ho (by omega)
  have cy : w.cell? ⟨g, 0, none⟩ = some (.string x) := by rw [OwnR.cell ho 0 (by omega)]; rfl
  have hD := sdel_any w B g n c _ ho (by omega)
  replace hD := Lib.hid hD
  have hn0 : ((n : Int) == 0) = false := by simp; omega
  have hnp : 0 < n := by omega
  have hnl : n ≤ 70001 := by omega
  clear hx
  replace hn := Lib.hid hn
  replace hn1 := Lib.hid hn1
  replace hb := Lib.hid hb
  replace ho := Lib.hid ho
  replace hne := Lib.hid hne
  have c2 : w.cell? ⟨q, 2, none⟩ = some (.slice (some ⟨g, 0, none⟩) n c) := hb.out.cell 2
  clear h
  go_enter Try.func38, Try.ntmps38
  go_wp2_with fail
  refine F.out.mono ?_
  rintro e w1 ⟨rfl, rfl⟩
  clear F
  go_wp2_with fail
  refine hD.out.mono ?_
  rintro e w5 ⟨rfl, ho5, hg5⟩
  have hk5 : Keeps w w5 (fun j => g = j) := Keeps.of_grown (S := fun j => g = j) hg5 (fun j e => Option.some.inj e)
  have hgq : g ≠ q := fun e => hne.out (by rw [e]; rfl)
  have r5 : RowAt w5 q TQS [.bool true, .int .i64 m, .slice (some ⟨g, 0, none⟩) n c] := hb.out.keeps hk5 hgq
  have d2 : w5.cell? ⟨q, 2, none⟩ = some (.slice (some ⟨g, 0, none⟩) n c) := r5.cell 2
  have f2 := r5.free 2
  have hks : Keeps w5 (w5.setCell ⟨q, 2, none⟩ (.slice (some ⟨g, 0, none⟩) (n - 1) c)) (fun j => j = q) := Keeps.set w5 q 2 _ rfl
  have hQ : Hid (QSt (w5.setCell ⟨q, 2, none⟩ (.slice (some ⟨g, 0, none⟩) (n - 1) c)) B q m (some ⟨g, 0, none⟩) c xs) := by
    have e : xs.length = n - 1 := by have := hn1.out; omega
    refine ⟨?_, ?_, ?_, hq⟩
    · rw [e]
      exact r5.set 2 _
    · rw [e]
      exact OwnR.keeps ho5 hks (fun j hj ej => by subst ej; exact hgq (Option.some.inj hj))
    · rw [e]
      exact fun e => hgq (Option.some.inj e)
  have hK : Hid (Keeps w (w5.setCell ⟨q, 2, none⟩ (.slice (some ⟨g, 0, none⟩) (n - 1) c)) (fun j => j = q ∨ OI (some ⟨g, 0, none⟩) n c = some j)) :=
    Keeps.trans (S1 := fun j => j = q) ⟨hk5.os, hk5.tape, hk5.output, hk5.size, fun j hj hs => hk5.block j hj (fun e => hs (.inr (by rw [← e]; rfl)))⟩ hks (fun j _ e => .inl e)
  clear hk5 r5 hks ho5 hg5 c2 hD hgq cy
  go_wp2
  refine bodyPost_ret (v := .tuple #[.string x, .bool true]) (by simp [results, Try.results38, go_sem]) rfl ?_
  exact ⟨_, c, rfl, hQ.out, hK.out⟩
theorem sout_no (w : World) (B q : Nat) (m : Int) (a : Option Addr) (c : Nat) (h : QSt w B q m a c []) (k : Int) :
    Calls Try.prog 38 #[.pointer (some ⟨q, 0, none⟩), .int .i64 k] w fun e w' => e = .returned (.tuple #[.string ⟨#[]⟩, .bool false]) ∧ w = w' := by
  have F := Lib.hid (slen_any w B q m a c [] h)
  clear h
  go_enter Try.func38, Try.ntmps38
  go_wp2_with fail
  refine F.out.mono ?_
  rintro e w1 ⟨rfl, rfl⟩
  go_wp2
  refine bodyPost_ret (v := .tuple #[.string ⟨#[]⟩, .bool false]) (by simp [results, Try.results38, go_sem]) rfl ⟨rfl, rfl⟩
theorem stake_yes (w : World) (B q : Nat) (m : Int) (a : Option Addr) (c : Nat) (x : ByteArray) (xs : List ByteArray) (h : QSt w B q m a c (x :: xs)) (hx : xs.length ≤ 70000) :
    Calls Try.prog 28 #[.pointer (some ⟨q, 0, none⟩)] w fun e w' => ∃ a' c', e = .returned (.tuple #[.string x, .bool true]) ∧ QSt w' B q m a' c' xs ∧ Keeps w w' (fun j => j = q ∨ OI a (xs.length + 1) c = some j) := by
  have O := Lib.hid (sout_yes w B q m a c x xs h hx)
  clear h
  go_enter Try.func28, Try.ntmps28
  go_wp2_with fail
  refine O.out.mono ?_
  rintro e w1 ⟨a', c', rfl, h1, h2⟩
  replace h1 := Lib.hid h1
  replace h2 := Lib.hid h2
  go_wp2
  go_ret2
  exact ⟨a', c', rfl, h1.out, h2.out⟩
theorem stake_no (w : World) (B q : Nat) (m : Int) (a : Option Addr) (c : Nat) (h : QSt w B q m a c []) :
    Calls Try.prog 28 #[.pointer (some ⟨q, 0, none⟩)] w fun e w' => e = .returned (.tuple #[.string ⟨#[]⟩, .bool false]) ∧ w = w' := by
  have O := Lib.hid (sout_no w B q m a c h 0)
  clear h
  go_enter Try.func28, Try.ntmps28
  go_wp2_with fail
  refine O.out.mono ?_
  rintro e w1 ⟨rfl, rfl⟩
  go_wp2
  go_ret2
  exact ⟨rfl, rfl⟩
/-- two slices of the same texts are the same -/
theorem seq_same (w : World) (a1 a2 : Option Addr) (n c1 c2 : Nat) (xs : List ByteArray) (h1 : StrsAt w a1 xs) (h2 : StrsAt w a2 xs) (hn : n = xs.length) (b1 : n ≤ 70000) :
    Calls Try.prog 25 #[.slice a1 n c1, .slice a2 n c2] w fun e w' => e = .returned (.bool true) ∧ Quiet w w' := by
  replace hn := Lib.hid hn
  go_enter Try.func25, Try.ntmps25
  go_wp2
  go_loopw [4, 13] (fun r i wr => ∃ k q : Nat, k ≤ n ∧ r = .bool false ∧ i = .int .i64 k ∧ wr = w.drewN q) (fun _ i _ => n - (intOf i).toNat)
  case atStart => exact ⟨0, 0, Nat.zero_le _, rfl, rfl, rfl⟩
  case round =>
    obtain ⟨k, q, hk, rfl, rfl, rfl⟩ := hrel
    by_cases hlt : k < n
    · obtain ⟨b, off, rfl, d1⟩ := h1 k (by have := hn.out; omega)
      obtain ⟨b', off', rfl, d2⟩ := h2 k (by have := hn.out; omega)
      obtain ⟨x, hx⟩ : ∃ x, x = xs.getD k ⟨#[]⟩ := ⟨_, rfl⟩
      rw [← hx] at d1 d2
      replace hx := Lib.hid hx
      go_wp2
      go_quiet (fail)
      go_wp2
      go_roundw
      case rel => exact ⟨k + 1, q + nq, by omega, rfl, by go_num, rfl⟩
      case measure => simp [intOf]; omega
    · go_wp2
      go_ret
      exact ⟨rfl, Quiet.one _ _⟩
end Go.Proofs.Ytfbddadnnpjjjaa
