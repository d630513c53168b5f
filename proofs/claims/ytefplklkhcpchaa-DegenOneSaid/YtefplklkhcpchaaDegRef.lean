/- The document's find, put and turn. Conditions: the bounds on how many. -/
import Derived.Test.YtefplklkhcpchaaDegIs
import Derived.Laws.StructEq
namespace Go.Proofs.Ytefplklkhcpchaa
open Go.RowKit

abbrev TQ : Nat := 52
theorem infoQ : (Try.prog.info? TQ).map (fun i => (i.zero, i.size, i.bytes)) = some (some (.agg #[.int .i64 0, .int .i64 0]), 2, 16) := by kernel_rfl

set_option maxHeartbeats 1000000 in
theorem find_any (w : World) (B : Nat) (a : Option Addr) (c : Nat) (l : List PR) (h : OwnP w B TQ a l.length c l) (q t : Int) (hl : l.length ≤ 100000) :
    Calls Try.prog 18 #[.slice a l.length c, .agg #[.int .i64 q, .int .i64 t]] w fun e w' => e = .returned (.int .i64 (if (q, t) ∈ l then (l.idxOf (q, t) : Int) else -1)) ∧ Below w.heap.size w w' := by
  generalize hr : (if (q, t) ∈ l then (l.idxOf (q, t) : Int) else -1) = r
  replace hr := Lib.hid hr
  have r3 : RowAt (w.alloc (.cells #[.int .i64 q, .int .i64 t] TQ)) w.heap.size TQ [.int .i64 q, .int .i64 t] := RowAt.new #[.int .i64 q, .int .i64 t] rfl
  have hb1 : Below w.heap.size w (w.alloc (.cells #[.int .i64 q, .int .i64 t] TQ)) := balloc (Below.refl _ _) _
  have h1 : OwnP (w.alloc (.cells #[.int .i64 q, .int .i64 t] TQ)) B TQ a l.length c l := OwnR.alloc h _
  replace h1 := Lib.hid h1
  clear h
  go_enter Try.func18, Try.ntmps18
  go_wp2
  obtain ⟨w1, hw1⟩ : ∃ w1, w1 = w.alloc (.cells #[.int .i64 q, .int .i64 t] TQ) := ⟨_, rfl⟩
  rw [← hw1] at r3 hb1 h1
  change Code.wp _ _ _ _ (w.alloc (.cells #[.int .i64 q, .int .i64 t] TQ))
  rw [← hw1]
  clear hw1
  have b0 : w1.cell? ⟨w.heap.size, 0, none⟩ = some (.int .i64 q) := r3.cell 0
  have b1 : w1.cell? ⟨w.heap.size, 1, none⟩ = some (.int .i64 t) := r3.cell 1
  replace hb1 := Lib.hid hb1
  replace r3 := Lib.hid r3
  go_loopw [5] (fun iv wr => ∃ k m : Nat, k ≤ l.length ∧ iv = .int .i64 k ∧ wr = w1.drewN m ∧ Hid ((q, t) ∉ l.take k)) (fun iv _ => l.length - (intOf iv).toNat)
  case atStart => exact ⟨0, 0, Nat.zero_le _, rfl, rfl, by simp [Hid]⟩
  case round =>
    obtain ⟨k, m, hk, rfl, rfl, hn⟩ := hrel
    by_cases hlt : k < l.length
    · obtain ⟨g, hab, _, hgl, c0, c1⟩ := h1.out.at k hlt
      have hst : Hid ((q, t) ≠ l[k] → (q, t) ∉ l.take (k + 1)) := fun hne => by
        rw [List.take_add_one, List.getElem?_eq_getElem hlt, Option.toList_some, List.mem_append, not_or]
        exact ⟨hn.out, by simpa using hne⟩
      have hyes : Hid ((q, t) = l[k] → r = (k : Int)) := fun he => by
        have hm : (q, t) ∈ l := by rw [he]; exact List.getElem_mem hlt
        have h2 := hr.out
        rw [if_pos hm] at h2
        have h3 : l.idxOf (q, t) = k := by
          have e : l = l.take k ++ (q, t) :: l.drop (k + 1) := by rw [he, ← List.drop_eq_getElem_cons hlt, List.take_append_drop]
          rw [e, List.idxOf_append, if_neg hn.out, List.idxOf_cons_self, List.length_take]
          omega
        rw [h3] at h2
        exact h2.symm
      generalize l[k] = p at c0 c1 hst hyes
      obtain ⟨x, y⟩ := p
      simp only at c0 c1
      have hi2 : (k : Int) < (l.length : Int) := by omega
      subst hab
      clear hn
      by_cases hx : x = q
      · subst hx
        by_cases hy : y = t
        · subst hy
          obtain rfl := hyes.out rfl
          clear hst hyes hr
          go_wp2
          go_quiet (fail)
          go_wp2
          go_ret
          exact ⟨rfl, by first | exact bdrewN hb1.out _ | (rw [World.drewN_drewN]; exact bdrewN hb1.out _)⟩
        · have hyb : (y == t) = false := by simpa using hy
          have hst2 : Hid ((x, t) ∉ l.take (k + 1)) := hst.out (fun e => hy (by cases e; rfl))
          clear hst hyes hy
          go_wp2
          go_quiet (fail)
          go_wp2
          go_roundw
          case rel => exact ⟨k + 1, _, by omega, by go_num, by first | rfl | exact World.drewN_drewN _ _ _, hst2⟩
          case measure => simp [intOf]; omega
      · have hxb : (x == q) = false := by simpa using hx
        have hst2 : Hid ((q, t) ∉ l.take (k + 1)) := hst.out (fun e => hx (by cases e; rfl))
        clear hst hyes hx
        go_wp2
        go_quiet (fail)
        go_wp2
        go_roundw
        case rel => exact ⟨k + 1, _, by omega, by go_num, by first | rfl | exact World.drewN_drewN _ _ _, hst2⟩
        case measure => simp [intOf]; omega
    · obtain rfl : k = l.length := by omega
      have hr2 : Hid (r = -1) := by
        have h2 := hr.out
        have h3 := hn.out
        rw [List.take_length] at h3
        rw [if_neg h3] at h2
        exact h2.symm
      obtain rfl := hr2.out
      clear hr hr2 hn
      go_wp2
      go_ret
      exact ⟨rfl, by first | exact bdrewN hb1.out _ | (rw [World.drewN_drewN]; exact bdrewN hb1.out _)⟩

/-- a list with a number put to it -/
def PutTo (w : World) (B : Nat) (a : Option Addr) (c : Nat) (xs : List Int) (n : Nat) (e : Ending) (w' : World) : Prop :=
  ∃ a' c', e = .returned (.slice a' (putP xs n).length c') ∧ OwnN .i64 w' B 3 a' (putP xs n).length c' (putP xs n) ∧ Keeps w w' (fun j => (Value.slice a xs.length c).ownBlock = some j) ∧
    Hid (∀ j, (Value.slice a' (putP xs n).length c').ownBlock = some j → (Value.slice a xs.length c).ownBlock = some j ∨ w.heap.size ≤ j)
set_option maxHeartbeats 1000000 in
theorem put_any (w : World) (B : Nat) (a : Option Addr) (c : Nat) (xs : List Int) (h : OwnN .i64 w B 3 a xs.length c xs) (hB : B ≤ w.heap.size) (n : Nat) (hl : xs.length ≤ 100000) :
    Calls Try.prog 19 #[.slice a xs.length c, .int .i64 n] w (PutTo w B a c xs n) := by
  have hN := Lib.hid (NumsAt.of_owns h)
  replace h := Lib.hid h
  go_enter Try.func19, Try.ntmps19
  go_wp2
  go_loop [5] (fun iv => ∃ k : Nat, k ≤ xs.length ∧ iv = .int .i64 k ∧ Hid ((n : Int) ∉ xs.take k)) (fun iv => xs.length - (intOf iv).toNat)
  case atStart => exact ⟨0, Nat.zero_le _, rfl, by simp [Hid]⟩
  case round =>
    obtain ⟨k, hk, rfl, hn⟩ := hrel
    by_cases hlt : k < xs.length
    · obtain ⟨bb, off, x, hab, cx, hx⟩ := hN.out.at k hlt
      have hx2 : x = xs[k] := by rw [hx.out, List.getD_eq_getElem?_getD, List.getElem?_eq_getElem hlt]; rfl
      have hbl := World.block_lt_of_cell? w _ cx
      simp only at hbl
      subst hab
      by_cases hv : x = (n : Int)
      · have hm : (n : Int) ∈ xs := by rw [← hv, hx2]; exact List.getElem_mem hlt
        have hp : Hid (putP xs n = xs) := by show _ = _; unfold putP; rw [if_pos hm]
        have hvb : (x == (n : Int)) = true := by simpa using hv
        clear hx2 hx hn hm hv
        go_wp2
        go_ret
        unfold PutTo
        rw [hp.out]
        exact ⟨_, c, rfl, h.out, Keeps.refl _ _, fun j hj => .inl hj⟩
      · have hvb : (x == (n : Int)) = false := by simpa using hv
        have hst : Hid ((n : Int) ∉ xs.take (k + 1)) := by
          show _ ∉ _
          rw [List.take_add_one, List.getElem?_eq_getElem hlt, Option.toList_some, List.mem_append, not_or]
          exact ⟨hn.out, by simp [← hx2]; omega⟩
        clear hx2 hx hn hv
        go_wp2
        go_round
        case rel => exact ⟨k + 1, by omega, by go_num, hst⟩
        case measure => simp [intOf]; omega
    · obtain rfl : k = xs.length := by omega
      have hp : Hid (putP xs n = xs ++ [(n : Int)]) := by
        have h3 := hn.out
        rw [List.take_length] at h3
        show _ = _
        unfold putP
        rw [if_neg h3]
      clear hn
      go_wp2_with (at_builtin; refine wp_app1y rfl _ _ 22 3 rfl Try.underlying22 infoI B a xs.length c xs rfl (h.out.alloc _) w.heap.size 1 (n : Int) rfl (new_cell1 _ _ _) (by omega) (by simp; omega) ?_)
      intro a' c' w2 ho2 hg2 hat2
      replace hat2 := Lib.hid hat2
      go_wp2
      go_ret
      unfold PutTo
      rw [hp.out]
      have e : (xs ++ [(n : Int)]).length = xs.length + 1 := by simp
      rw [e]
      refine ⟨a', c', rfl, ho2, (Keeps.alloc w (.cells #[.int .i64 n] 3) (fun j => (Value.slice a xs.length c).ownBlock = some j)).trans (Keeps.of_grown (S := fun j => (Value.slice a xs.length c).ownBlock = some j) hg2 (fun j e => e)) (fun _ _ h => h), fun j hj => ?_⟩
      rcases hat2.out with h1 | h1
      · exact .inl (by rw [← h1]; exact hj)
      · rw [h1] at hj
        simp at hj
        exact .inr (by omega)
end Go.Proofs.Ytefplklkhcpchaa
