/- Numbers of nodes with a turn, each once. Conditions: the bounds on how many. -/
import Derived.Test.YtefplklkhcpchaaDegNum
namespace Go.Proofs.Ytefplklkhcpchaa
open Go.RowKit

theorem index_any (w : World) (a : Option Addr) (c : Nat) (xs : List Int) (v : Int) (h1 : NumsAt .i64 w a xs) (hl : xs.length ≤ 9223372036854775807) :
    Calls Try.prog 36 #[.slice a xs.length c, .int .i64 v] w fun e w' => ∃ k : Int, e = .returned (.int .i64 k) ∧ Hid (decide (0 ≤ k) = decide (v ∈ xs)) ∧ Quiet w w' := by
  go_enter Try.func36, Try.ntmps36
  go_wp2
  go_loopw [8] (fun i wr => ∃ k m : Nat, k ≤ xs.length ∧ i = .int .i64 k ∧ wr = w.drewN m ∧ Hid (v ∉ xs.take k)) (fun i _ => xs.length - (intOf i).toNat)
  case atStart => exact ⟨0, 0, Nat.zero_le _, rfl, rfl, by simp [Hid]⟩
  case round =>
    obtain ⟨k, m, hk, rfl, rfl, hall⟩ := hrel
    by_cases hlt : k < xs.length
    · obtain ⟨bb, off, x, rfl, cx, hx⟩ := (h1.drewN m).at k hlt
      have hx2 : x = xs[k] := by rw [hx.out, List.getD_eq_getElem?_getD, List.getElem?_eq_getElem hlt]; rfl
      by_cases hv : v = x
      · subst hv
        have hm : Hid (v ∈ xs) := by show _ ∈ _; rw [hx2]; exact List.getElem_mem hlt
        clear hx2 hall hx
        go_wp2
        go_ret
        refine ⟨k, rfl, ?_, Quiet.one _ _⟩
        show _ = _
        rw [decide_eq_true hm.out, decide_eq_true (by omega)]
      · have hvb : (v == x) = false := by simpa using hv
        have hst : Hid (v ∉ xs.take (k + 1)) := by
          show _ ∉ _
          rw [List.take_add_one, List.getElem?_eq_getElem hlt, Option.toList_some, List.mem_append, not_or]
          exact ⟨hall.out, by simpa [← hx2] using hv⟩
        clear hx2 hall hx hv
        go_wp2
        go_roundw
        case rel => exact ⟨k + 1, _, by omega, by go_num, by first | rfl | exact World.drewN_drewN _ _ _, hst⟩
        case measure => simp [intOf]; omega
    · obtain rfl : k = xs.length := by omega
      go_wp2
      go_ret
      refine ⟨-1, rfl, ?_, Quiet.one _ _⟩
      show _ = _
      have := hall.out
      rw [List.take_length] at this
      rw [decide_eq_false this]
      rfl
theorem contains_any (w : World) (a : Option Addr) (c : Nat) (xs : List Int) (v : Int) (h1 : NumsAt .i64 w a xs) (hl : xs.length ≤ 9223372036854775807) :
    Calls Try.prog 30 #[.slice a xs.length c, .int .i64 v] w fun e w' => e = .returned (.bool (decide (v ∈ xs))) ∧ Quiet w w' := by
  have C := Lib.hid (index_any w a c xs v h1 hl)
  generalize decide (v ∈ xs) = r at C
  clear h1 hl
  go_enter Try.func30, Try.ntmps30
  go_wp2_with fail
  refine C.out.mono ?_
  rintro e w1 ⟨k, rfl, hk, m, rfl⟩
  go_wp2
  go_ret
  exact ⟨ret_bool hk.out, Quiet.one _ _⟩

theorem MK.hotB {w : World} {B M mb : Nat} {pa : Option Addr} {pc : Nat} {s : Int} {ai : Option Addr} {ni ci : Nat} {an : Option Addr} {nn cn : Nat} {l : List PR} (h : MK w B M mb pa pc s ai ni ci an nn cn l) {j : Nat} (hj : Hot M mb (.slice pa l.length pc) j) : B ≤ j ∧ j < w.heap.size := by
  rcases hj with rfl | rfl | hj
  · exact ⟨h.hM, h.row.lt⟩
  · exact ⟨h.hmb, h.map.lt⟩
  · exact OwnR.lt h.own hj
theorem infoI : (Try.prog.info? 3).map (fun i => (i.zero, i.size, i.bytes)) = some (some (.int .i64 0), 1, 8) := by kernel_rfl
theorem new_cell1 (w : World) (T : Nat) (v : Value) : (w.alloc (.cells #[v] T)).cell? ⟨w.heap.size, 0, none⟩ = some v := by
  rw [World.cell?_alloc_at _ _ _ _ rfl]
  rfl
/-- append of a number, with where the row lies -/
theorem wp_app1y {P : Program} {w : World} {ops : Array Oper} {rest : List Oper} {o : Oper} {act : Act} {Q : Exit → Act → World → Prop} (hgd : o.guard = none) (s x : Operand) (t e : TypeId)
    (ho : o.op = .call { callee := .builtin .append, args := #[s, x], argTypes := #[t, t] }) (ht : P.underlying t = some (.slice e))
    (hi : (P.info? e).map (fun i => (i.zero, i.size, i.bytes)) = some (some (.int .i64 0), 1, 8)) (base : Nat)
    (a : Option Addr) (n cap : Nat) (xs : List Int) (hs : act.eval s = .slice a n cap) (hown : OwnN .i64 w base e a n cap xs)
    (g c : Nat) (y : Int) (hx : act.eval x = .slice (some ⟨g, 0, none⟩) 1 c) (hy : w.cell? ⟨g, 0, none⟩ = some (.int .i64 y))
    (hbytes : (n + 1) * 8 ≤ 140737488355328) (hbase : base ≤ w.heap.size)
    (h : ∀ a' cap' w', OwnN .i64 w' base e a' (n + 1) cap' (xs ++ [y]) → w.grownBy w' (Value.slice a n cap).ownBlock → ((Value.slice a' (n + 1) cap').ownBlock = (Value.slice a n cap).ownBlock ∨ (Value.slice a' (n + 1) cap').ownBlock = some w.heap.size) → wpList P ops Q rest (act.put o.dst (.slice a' (n + 1) cap')) w') :
    wpList P ops Q (o :: rest) act w := by
  refine wp_appR hgd s x t e (.int .i64 0) 1 8 ho ht hi rfl (by decide) base a n cap (xs.map (.int .i64)) hs hown g c [.int .i64 y] hx rfl ?_ ?_ (by unfold maxLen; omega) hbytes hbase ?_
  · intro j u hj
    match j, hj with
    | 0, hj =>
      simp at hj
      subst hj
      simpa [Addr.add] using hy
  · intro u hu
    simp at hu
    subst hu
    rfl
  · intro a' cap' w' ho hg hat
    refine h a' cap' w' ?_ hg hat
    unfold OwnN
    unfold OwnR at ho
    simpa using ho

/-- what numbers of nodes give -/
def Rowed (w : World) (B M mb : Nat) (pa : Option Addr) (pc : Nat) (s : Int) (ai : Option Addr) (ni ci : Nat) (an : Option Addr) (nn cn : Nat) (l : List PR) (q : List PR × List Int) (e : Ending) (w' : World) : Prop :=
  ∃ ao co pa' pc', e = .returned (.slice ao q.2.length co) ∧ OwnN .i64 w' B 3 ao q.2.length co q.2 ∧ MK w' B M mb pa' pc' s ai ni ci an nn cn q.1 ∧ Keeps w w' (Hot M mb (.slice pa l.length pc)) ∧
    Hid (∀ j, (Value.slice pa' q.1.length pc').ownBlock = some j → (Value.slice pa l.length pc).ownBlock = some j ∨ w.heap.size ≤ j) ∧
    Hid (∀ j, (Value.slice ao q.2.length co).ownBlock = some j → w.heap.size ≤ j ∧ ¬ Hot M mb (.slice pa' q.1.length pc') j)

set_option maxHeartbeats 4000000 in
theorem row_any (w : World) (B M mb : Nat) (pa : Option Addr) (pc : Nat) (s : Int) (ai : Option Addr) (ni ci : Nat) (an : Option Addr) (nn cn : Nat) (l : List PR) (h : MK w B M mb pa pc s ai ni ci an nn cn l) (hB : B ≤ w.heap.size)
    (a : Option Addr) (c : Nat) (xs : List Int) (hx : NumsAt .i64 w a xs) (hxB : ∀ ad : Addr, a = some ad → 0 < xs.length → ad.block < B) (t : Int) (ht : (Lit.int .i64 t).wf = true) (hxw : ∀ q ∈ xs, (Lit.int .i64 q).wf = true) (hl : l.length + xs.length ≤ 90000) :
    Calls Try.prog 16 #[.pointer (some ⟨M, 0, none⟩), .slice a xs.length c, .int .i64 t] w (Rowed w B M mb pa pc s ai ni ci an nn cn l (rowP t xs (l, []))) := by
  replace hx := Lib.hid hx
  replace hxB := Lib.hid hxB
  replace hxw := Lib.hid hxw
  replace ht := Lib.hid ht
  go_enter Try.func16, Try.ntmps16
  go_wp2
  go_loopw [7, 13] (fun ov iv wr => ∃ (k : Nat) (l' : List PR) (out : List Int) (ao : Option Addr) (co : Nat) (pa' : Option Addr) (pc' : Nat), k ≤ xs.length ∧ iv = .int .i64 k ∧ ov = .slice ao out.length co ∧ Hid (rowP t (xs.take k) (l, []) = (l', out)) ∧ MK wr B M mb pa' pc' s ai ni ci an nn cn l' ∧ OwnN .i64 wr B 3 ao out.length co out ∧
      Keeps w wr (Hot M mb (.slice pa l.length pc)) ∧ Hid (∀ j, (Value.slice pa' l'.length pc').ownBlock = some j → (Value.slice pa l.length pc).ownBlock = some j ∨ w.heap.size ≤ j) ∧ Hid (∀ j, (Value.slice ao out.length co).ownBlock = some j → w.heap.size ≤ j ∧ ¬ Hot M mb (.slice pa' l'.length pc') j) ∧ l'.length ≤ l.length + k ∧ out.length ≤ k) (fun _ iv _ => xs.length - (intOf iv).toNat)
  case atStart => exact ⟨0, l, [], none, 0, pa, pc, Nat.zero_le _, rfl, rfl, rfl, h, OwnN.nil _ _ _ _, Keeps.refl _ _, fun j hj => .inl hj, (fun j hj => by simp [Value.ownBlock] at hj), by omega, by simp⟩
  case round =>
    obtain ⟨k, l', out, ao, co, pa', pc', hk, rfl, rfl, hs, hM, ho, hK, hf, hc, hl', hol⟩ := hrel
    have hzB : B ≤ wr.heap.size := Nat.le_trans hB hK.size
    have hhot := Lib.hid (fun j hj => h.hotB (j := j) hj)
    by_cases hlt : k < xs.length
    · obtain ⟨bb, off, x, rfl, cx, hxx⟩ := (hx.out.keeps hK (fun ad had hh => by have := (hhot.out _ hh).1; have := hxB.out ad had (by omega); omega)).at k hlt
      have hx2 : x = xs[k] := by rw [hxx.out, List.getD_eq_getElem?_getD, List.getElem?_eq_getElem hlt]; rfl
      have hok : okP (x, t) := ⟨by rw [hx2]; exact hxw.out _ (List.getElem_mem hlt), ht.out⟩
      have hst : Hid (rowP t (xs.take (k + 1)) (l, []) = ((numP l' (x, t)).1, putP out (numP l' (x, t)).2)) := by
        show _ = _
        rw [rowP_snoc t xs k hlt, hs.out, ← hx2]
        rfl
      have hlen := numP_len l' (x, t)
      have C := number_any wr B M mb pa' pc' s ai ni ci an nn cn l' hM hzB (x, t) hok (by omega)
      generalize numP l' (x, t) = q at C hst hlen
      obtain ⟨l2, n⟩ := q
      simp only at C hst hlen
      replace C := Lib.hid C
      clear hx2 hxx hs
      go_wp2_with fail
      refine C.out.mono ?_
      rintro e w2 ⟨rfl, pa2, pc2, hM2, hK2, hf2⟩
      have ho2 := ho.keeps hK2 (fun j hj => (hc.out j hj).2)
      have hK2w : Keeps w w2 (Hot M mb (.slice pa l.length pc)) := hK.trans hK2 (fun j hj hh => by
        rcases hh with h1 | h1 | h1
        · exact .inl h1
        · exact .inr (.inl h1)
        · rcases hf.out j h1 with h2 | h2
          · exact .inr (.inr h2)
          · omega)
      have hf2w : Hid (∀ j, (Value.slice pa2 l2.length pc2).ownBlock = some j → (Value.slice pa l.length pc).ownBlock = some j ∨ w.heap.size ≤ j) := fun j hj => by
        rcases hf2.out j hj with h1 | h1
        · exact hf.out j h1
        · exact .inr (by have := hK.size; omega)
      have hc2 : Hid (∀ j, (Value.slice ao out.length co).ownBlock = some j → w.heap.size ≤ j ∧ ¬ Hot M mb (.slice pa2 l2.length pc2) j) := fun j hj => by
        obtain ⟨h1, h2⟩ := hc.out j hj
        refine ⟨h1, fun hh => ?_⟩
        rcases hh with h3 | h3 | h3
        · exact h2 (.inl h3)
        · exact h2 (.inr (.inl h3))
        · rcases hf2.out j h3 with h4 | h4
          · exact h2 (.inr (.inr h4))
          · have := (ho.lt2 hj).2; omega
      have CC := contains_any w2 ao co out (n : Int) (NumsAt.of_owns ho2) (by omega)
      clear C hM ho hK hf hc hK2 hf2
      by_cases hin : (n : Int) ∈ out
      · rw [decide_eq_true hin] at CC
        have hst2 : Hid (rowP t (xs.take (k + 1)) (l, []) = (l2, out)) := by show _ = _; rw [hst.out]; unfold putP; rw [if_pos hin]
        replace CC := Lib.hid CC
        clear hin hst
        go_wp2_with fail
        refine CC.out.mono ?_
        rintro e w3 ⟨rfl, m3, rfl⟩
        have hq : Below w2.heap.size w2 (w2.drewN m3) := bdrewN (Below.refl _ _) _
        go_wp2
        go_roundw
        case rel => exact ⟨k + 1, l2, out, ao, co, pa2, pc2, by omega, by go_num, rfl, hst2, hM2.below hq, ho2.keeps (S := fun _ => False) (Keeps.of_below hq) (fun _ _ h => h), hK2w.trans (Keeps.of_below (S := fun _ => False) hq) (fun _ _ h => h.elim), hf2w, hc2, by omega, by omega⟩
        case measure => simp [intOf]; omega
      · rw [decide_eq_false hin] at CC
        have hst2 : Hid (rowP t (xs.take (k + 1)) (l, []) = (l2, out ++ [(n : Int)])) := by show _ = _; rw [hst.out]; unfold putP; rw [if_neg hin]
        replace CC := Lib.hid CC
        clear hin hst
        go_wp2_with fail
        refine CC.out.mono ?_
        rintro e w3 ⟨rfl, m3, rfl⟩
        have hq : Below w2.heap.size w2 (w2.drewN m3) := bdrewN (Below.refl _ _) _
        have hM3 := hM2.below hq
        have ho3 := ho2.keeps (S := fun _ => False) (Keeps.of_below hq) (fun _ _ h => h)
        have hK3 := hK2w.trans (Keeps.of_below (S := fun _ => False) hq) (fun _ _ h => h.elim)
        have hz3 := hK3.size
        clear hM2 ho2 hK2w hq
        generalize w2.drewN m3 = w3 at hM3 ho3 hK3 hz3 ⊢
        go_wp2_with (at_builtin; refine wp_app1y rfl _ _ 22 3 rfl Try.underlying22 infoI B ao out.length co out rfl (ho3.alloc _) w3.heap.size 1 (n : Int) rfl (new_cell1 _ _ _) (by omega) (by simp; omega) ?_)
        intro a' cap' w4 ho4 hg4 hat4
        have hcold : Hid (∀ j, (Value.slice a' (out.length + 1) cap').ownBlock = some j → w.heap.size ≤ j ∧ ¬ Hot M mb (.slice pa2 l2.length pc2) j) := fun j hj => by
          rcases hat4 with h1 | h1
          · exact hc2.out j (by rw [← h1]; exact hj)
          · rw [h1] at hj
            simp at hj
            exact ⟨by omega, fun hh => by have := (hM3.hotB hh).2; omega⟩
        have hMa := hM3.below (balloc (Below.refl _ _) (.cells #[.int .i64 n] 3))
        have hM4 := hMa.keeps (Keeps.of_grown (S := fun j => (Value.slice ao out.length co).ownBlock = some j) hg4 (fun j e => e)) (fun j hh hj => (hc2.out j hj).2 hh)
        have hK4 := (hK3.trans (Keeps.alloc w3 (.cells #[.int .i64 n] 3) (fun _ => False)) (fun _ _ h => h.elim)).trans (Keeps.of_grown (S := fun j => (Value.slice ao out.length co).ownBlock = some j) hg4 (fun j e => e)) (fun j hj hh => by have := (hc2.out j hh).1; omega)
        have he : (out ++ [(n : Int)]).length = out.length + 1 := by simp
        have hE := Lib.hid he
        clear hMa hM3 ho3 hK3 hg4 hat4 he
        go_wp2
        go_roundw
        case rel => exact ⟨k + 1, l2, out ++ [(n : Int)], a', cap', pa2, pc2, by omega, by go_num, by rw [hE.out], hst2, hM4, by rw [hE.out]; exact ho4, hK4, hf2w, by rw [hE.out]; exact hcold, by omega, by rw [hE.out]; omega⟩
        case measure => simp [intOf]; omega
    · obtain rfl : k = xs.length := by omega
      go_wp2
      go_ret
      have hs2 := hs.out
      rw [List.take_length] at hs2
      rw [hs2]
      exact ⟨ao, co, pa', pc', rfl, ho, hM, hK, hf, hc⟩
end Go.Proofs.Ytefplklkhcpchaa
