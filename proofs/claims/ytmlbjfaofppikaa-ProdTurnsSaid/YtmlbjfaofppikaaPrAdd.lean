/- The document's add: a pair behind others, if it is not among them. Conditions: a bound. -/
import Derived.Test.YtmlbjfaofppikaaPrRef
namespace Go.Proofs.Ytmlbjfaofppikaa
open Go.RowKit

theorem infoRq : (Try.prog.info? TRq).map (fun i => (i.zero, i.size, i.bytes)) = some (some (.agg #[.int .i64 0, .int .i64 0, .int .i64 0]), 3, 24) := by kernel_rfl
/-- what add gives -/
def Added (w : World) (B : Nat) (a : Option Addr) (n c : Nat) (l : List PP) (e : Ending) (w' : World) : Prop :=
  ∃ a' c', e = .returned (.slice a' l.length c') ∧ OwnQ w' B TRq a' c' l ∧ Keeps w w' (fun j => (Value.slice a n c).ownBlock = some j) ∧ Hid (∀ j, (Value.slice a' l.length c').ownBlock = some j → (Value.slice a n c).ownBlock = some j ∨ w.heap.size ≤ j)
set_option maxHeartbeats 2000000 in
theorem radd_any (w : World) (B : Nat) (hB : B ≤ w.heap.size) (a : Option Addr) (c : Nat) (l : List PP) (h : OwnQ w B TRq a c l) (x : PP) (hl : l.length ≤ 1000000) :
    Calls Try.prog 41 #[.slice a l.length c, ppv x] w (Added w B a l.length c (addP l x)) := by
  obtain ⟨q, s, t⟩ := x
  have r3 : RowAt (w.alloc (.cells #[.int .i64 q, .int .i64 s, .int .i64 t] TRq)) w.heap.size TRq [.int .i64 q, .int .i64 s, .int .i64 t] := RowAt.new #[.int .i64 q, .int .i64 s, .int .i64 t] rfl
  have hb1 : Below w.heap.size w (w.alloc (.cells #[.int .i64 q, .int .i64 s, .int .i64 t] TRq)) := balloc (Below.refl _ _) _
  have h1 : OwnQ (w.alloc (.cells #[.int .i64 q, .int .i64 s, .int .i64 t] TRq)) B TRq a c l := OwnR.alloc h _
  replace h1 := Lib.hid h1
  have hB1 := Lib.hid (Nat.le_trans hB hb1.size)
  clear h hB
  go_enter Try.func41, Try.ntmps41
  go_wp2
  obtain ⟨w1, hw1⟩ : ∃ w1, w1 = w.alloc (.cells #[.int .i64 q, .int .i64 s, .int .i64 t] TRq) := ⟨_, rfl⟩
  rw [← hw1] at r3 hb1 h1 hB1
  change Code.wp _ _ _ _ (w.alloc (.cells #[.int .i64 q, .int .i64 s, .int .i64 t] TRq))
  rw [← hw1]
  clear hw1
  have b0 : w1.cell? ⟨w.heap.size, 0, none⟩ = some (.int .i64 q) := r3.cell 0
  have b1 : w1.cell? ⟨w.heap.size, 1, none⟩ = some (.int .i64 s) := r3.cell 1
  have b2 : w1.cell? ⟨w.heap.size, 2, none⟩ = some (.int .i64 t) := r3.cell 2
  replace hb1 := Lib.hid hb1
  replace r3 := Lib.hid r3
  go_loopw [4, 5] (fun zv iv wr => ∃ k m : Nat, zv = .slice none 0 0 ∧ k ≤ l.length ∧ iv = .int .i64 k ∧ wr = w1.drewN m ∧ Hid ((⟨q, s, t⟩ : PP) ∉ l.take k)) (fun _ iv _ => l.length - (intOf iv).toNat)
  case atStart => exact ⟨0, 0, rfl, Nat.zero_le _, rfl, rfl, by simp [Hid]⟩
  case round =>
    obtain ⟨k, m, rfl, hk, rfl, rfl, hn⟩ := hrel
    by_cases hlt : k < l.length
    · obtain ⟨g, hab, _, hgl, c0, c1, c2⟩ := OwnQ.at h1.out k hlt
      have hst : Hid ((⟨q, s, t⟩ : PP) ≠ l[k] → (⟨q, s, t⟩ : PP) ∉ l.take (k + 1)) := fun hne => by
        rw [List.take_add_one, List.getElem?_eq_getElem hlt, Option.toList_some, List.mem_append, not_or]
        exact ⟨hn.out, by simpa using hne⟩
      have hyes : Hid ((⟨q, s, t⟩ : PP) = l[k] → (⟨q, s, t⟩ : PP) ∈ l) := fun he => by rw [he]; exact List.getElem_mem hlt
      generalize l[k] = p at c0 c1 c2 hst hyes
      obtain ⟨x, y, z⟩ := p
      simp only at c0 c1 c2
      have hi2 : (k : Int) < (l.length : Int) := by omega
      subst hab
      clear hn
      by_cases hx : x = q
      · subst hx
        by_cases hy : y = s
        · subst hy
          by_cases hz : z = t
          · subst hz
            have hm := Lib.hid (hyes.out rfl)
            clear hst hyes
            go_wp2
            go_quiet (fail)
            go_wp2
            go_ret
            have e : addP l ⟨x, y, z⟩ = l := by unfold addP; rw [if_pos hm.out]
            rw [e]
            have hbq : Below w1.heap.size w1 (w1.drewN (m + nq)) := bdrewN (Below.refl _ _) _
            rw [World.drewN_drewN]
            exact ⟨_, _, rfl, OwnR.keeps (S := fun _ => False) h1.out (Keeps.of_below hbq) (fun _ _ h => h), Keeps.of_below (btrans hb1.out hbq), fun j hj => .inl hj⟩
          · have hzb : (z == t) = false := by simpa using hz
            have hst2 : Hid ((⟨x, y, t⟩ : PP) ∉ l.take (k + 1)) := hst.out (fun e => hz (by cases e; rfl))
            clear hst hyes hz
            go_wp2
            go_quiet (fail)
            go_wp2
            go_roundw
            case rel => exact ⟨k + 1, _, rfl, by omega, by go_num, by first | rfl | exact World.drewN_drewN _ _ _, hst2⟩
            case measure => simp [intOf]; omega
        · have hyb : (y == s) = false := by simpa using hy
          have hst2 : Hid ((⟨x, s, t⟩ : PP) ∉ l.take (k + 1)) := hst.out (fun e => hy (by cases e; rfl))
          clear hst hyes hy
          go_wp2
          go_quiet (fail)
          go_wp2
          go_roundw
          case rel => exact ⟨k + 1, _, rfl, by omega, by go_num, by first | rfl | exact World.drewN_drewN _ _ _, hst2⟩
          case measure => simp [intOf]; omega
      · have hxb : (x == q) = false := by simpa using hx
        have hst2 : Hid ((⟨q, s, t⟩ : PP) ∉ l.take (k + 1)) := hst.out (fun e => hx (by cases e; rfl))
        clear hst hyes hx
        go_wp2
        go_quiet (fail)
        go_wp2
        go_roundw
        case rel => exact ⟨k + 1, _, rfl, by omega, by go_num, by first | rfl | exact World.drewN_drewN _ _ _, hst2⟩
        case measure => simp [intOf]; omega
    · obtain rfl : k = l.length := by omega
      rw [List.take_length] at hn
      have hbq : Below w1.heap.size w1 (w1.drewN m) := bdrewN (Below.refl _ _) _
      have h2 : OwnQ (w1.drewN m) B TRq a c l := OwnR.keeps (S := fun _ => False) h1.out (Keeps.of_below hbq) (fun _ _ h => h)
      have d0 : (w1.drewN m).cell? ⟨w.heap.size, 0, none⟩ = some (.int .i64 q) := b0
      have d1 : (w1.drewN m).cell? ⟨w.heap.size, 1, none⟩ = some (.int .i64 s) := b1
      have d2 : (w1.drewN m).cell? ⟨w.heap.size, 2, none⟩ = some (.int .i64 t) := b2
      have hB2 : B ≤ (w1.drewN m).heap.size := Nat.le_trans hB1.out hbq.size
      have hb2 := btrans hb1.out hbq
      generalize w1.drewN m = w2 at h2 d0 d1 d2 hB2 hb2 ⊢
      have hz2 := hb2.size
      replace h2 := Lib.hid h2
      replace hb2 := Lib.hid hb2
      have hZ := balloc (Below.refl w2.heap.size w2) (.cells #[.int .i64 q, .int .i64 s, .int .i64 t] TRq)
      have hB4 : Hid (B ≤ (w2.alloc (.cells #[.int .i64 q, .int .i64 s, .int .i64 t] TRq)).heap.size) := Nat.le_trans hB2 hZ.size
      replace hZ := Lib.hid hZ
      clear b0 b1 b2 h1 hbq
      go_wp2_with (at_builtin; refine wp_appR rfl _ _ 57 TRq (.agg #[.int .i64 0, .int .i64 0, .int .i64 0]) 3 24 rfl Try.underlying57 infoRq rfl (by decide) B a l.length c (qcells l) rfl (OwnR.alloc h2.out _) w2.heap.size 1 [.int .i64 q, .int .i64 s, .int .i64 t] rfl rfl (new_cells w2 #[.int .i64 q, .int .i64 s, .int .i64 t] TRq rfl) (by intro u hu; simp at hu; rcases hu with rfl | rfl | rfl <;> rfl) (by unfold maxLen; omega) (by omega) hB4.out ?_)
      intro a' c' w4 ho4 hg4 hat4
      have e : addP l ⟨q, s, t⟩ = l ++ [⟨q, s, t⟩] := by unfold addP; rw [if_neg hn.out]
      have el : (l ++ [(⟨q, s, t⟩ : PP)]).length = l.length + 1 := by simp
      have K4 : Keeps w w4 (fun j => (Value.slice a l.length c).ownBlock = some j) := ((Keeps.of_below hb2.out).trans (Keeps.alloc w2 _ (fun j => (Value.slice a l.length c).ownBlock = some j)) (fun _ _ h => h)).trans (Keeps.of_grown (S := fun j => (Value.slice a l.length c).ownBlock = some j) hg4 (fun j e => e)) (fun _ _ h => h)
      have hfr : Hid (∀ j, (Value.slice a' (l.length + 1) c').ownBlock = some j → (Value.slice a l.length c).ownBlock = some j ∨ w.heap.size ≤ j) := by
        intro j hj
        rcases hat4 with h | h
        · exact .inl (by rw [← h]; exact hj)
        · rw [h] at hj
          simp at hj
          exact .inr (by omega)
      have ho : OwnQ w4 B TRq a' c' (l ++ [⟨q, s, t⟩]) := by
        unfold OwnQ
        rw [el, qcells_snoc]
        exact ho4
      replace ho := Lib.hid ho
      replace K4 := Lib.hid K4
      replace el := Lib.hid el
      replace e := Lib.hid e
      clear ho4 hg4 hat4
      go_wp2
      go_ret
      rw [e.out]
      exact ⟨a', c', by rw [el.out]; rfl, ho.out, K4.out, by rw [el.out]; exact hfr⟩
end Go.Proofs.Ytmlbjfaofppikaa
