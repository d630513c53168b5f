/- The library's Contains at pairs. No conditions but a bound. -/
import Derived.Test.YtmlbjfaofppikaaPrInn
namespace Go.Proofs.Ytmlbjfaofppikaa
open Go.RowKit

set_option maxHeartbeats 1000000 in
theorem indexq_any (w : World) (a : Option Addr) (c : Nat) (l : List PP) (h : PpsAt w a l) (x : PP) (hl : l.length ≤ 1000000) :
    Calls Try.prog 58 #[.slice a l.length c, ppv x] w fun e w' => (∃ r : Int, e = .returned (.int .i64 r) ∧ decide (0 ≤ r) = decide (x ∈ l)) ∧ Below w.heap.size w w' := by
  obtain ⟨q, s, t⟩ := x
  have r3 : RowAt (w.alloc (.cells #[.int .i64 q, .int .i64 s, .int .i64 t] TPP)) w.heap.size TPP [.int .i64 q, .int .i64 s, .int .i64 t] := RowAt.new #[.int .i64 q, .int .i64 s, .int .i64 t] rfl
  have hb1 : Below w.heap.size w (w.alloc (.cells #[.int .i64 q, .int .i64 s, .int .i64 t] TPP)) := balloc (Below.refl _ _) _
  have h1 := h.below hb1
  replace h1 := Lib.hid h1
  clear h
  go_enter Try.func58, Try.ntmps58
  go_wp2
  obtain ⟨w1, hw1⟩ : ∃ w1, w1 = w.alloc (.cells #[.int .i64 q, .int .i64 s, .int .i64 t] TPP) := ⟨_, rfl⟩
  rw [← hw1] at r3 hb1 h1
  change Code.wp _ _ _ _ (w.alloc (.cells #[.int .i64 q, .int .i64 s, .int .i64 t] TPP))
  rw [← hw1]
  clear hw1
  have b0 : w1.cell? ⟨w.heap.size, 0, none⟩ = some (.int .i64 q) := r3.cell 0
  have b1 : w1.cell? ⟨w.heap.size, 1, none⟩ = some (.int .i64 s) := r3.cell 1
  have b2 : w1.cell? ⟨w.heap.size, 2, none⟩ = some (.int .i64 t) := r3.cell 2
  replace hb1 := Lib.hid hb1
  replace r3 := Lib.hid r3
  go_loopw [4, 8] (fun zv iv wr => ∃ k m : Nat, zv = .int .i64 0 ∧ k ≤ l.length ∧ iv = .int .i64 k ∧ wr = w1.drewN m ∧ Hid ((⟨q, s, t⟩ : PP) ∉ l.take k)) (fun _ iv _ => l.length - (intOf iv).toNat)
  case atStart => exact ⟨0, 0, rfl, Nat.zero_le _, rfl, rfl, by simp [Hid]⟩
  case round =>
    obtain ⟨k, m, rfl, hk, rfl, rfl, hn⟩ := hrel
    by_cases hlt : k < l.length
    · obtain ⟨g, off, hab, hgl, c0, c1, c2⟩ := h1.out.at k hlt
      have hst : Hid ((⟨q, s, t⟩ : PP) ≠ l[k] → (⟨q, s, t⟩ : PP) ∉ l.take (k + 1)) := fun hne => by
        rw [List.take_add_one, List.getElem?_eq_getElem hlt, Option.toList_some, List.mem_append, not_or]
        exact ⟨hn.out, by simpa using hne⟩
      have hyes : Hid ((⟨q, s, t⟩ : PP) = l[k] → (⟨q, s, t⟩ : PP) ∈ l) := fun he => by rw [he]; exact List.getElem_mem hlt
      generalize l[k] = p at c0 c1 c2 hst hyes
      obtain ⟨x, y, z⟩ := p
      simp only at c0 c1 c2
      have hi2 : (k : Int) < (l.length : Int) := by omega
      subst hab
      clear hn
      by_cases hx : q = x
      · subst hx
        by_cases hy : s = y
        · subst hy
          by_cases hz : t = z
          · subst hz
            have hm := Lib.hid (hyes.out rfl)
            clear hst hyes
            go_wp2
            go_quiet (fail)
            go_wp2
            go_ret
            exact ⟨⟨_, rfl, by rw [decide_eq_true hm.out]; simp⟩, by first | exact bdrewN hb1.out _ | (rw [World.drewN_drewN]; exact bdrewN hb1.out _)⟩
          · have hzb : (t == z) = false := by simpa using hz
            have hst2 : Hid ((⟨q, s, t⟩ : PP) ∉ l.take (k + 1)) := hst.out (fun e => hz (by cases e; rfl))
            clear hst hyes hz
            go_wp2
            go_quiet (fail)
            go_wp2
            go_roundw
            case rel => exact ⟨k + 1, _, rfl, by omega, by go_num, by first | rfl | exact World.drewN_drewN _ _ _, hst2⟩
            case measure => simp [intOf]; omega
        · have hyb : (s == y) = false := by simpa using hy
          have hst2 : Hid ((⟨q, s, t⟩ : PP) ∉ l.take (k + 1)) := hst.out (fun e => hy (by cases e; rfl))
          clear hst hyes hy
          go_wp2
          go_quiet (fail)
          go_wp2
          go_roundw
          case rel => exact ⟨k + 1, _, rfl, by omega, by go_num, by first | rfl | exact World.drewN_drewN _ _ _, hst2⟩
          case measure => simp [intOf]; omega
      · have hxb : (q == x) = false := by simpa using hx
        have hst2 : Hid ((⟨q, s, t⟩ : PP) ∉ l.take (k + 1)) := hst.out (fun e => hx (by cases e; rfl))
        clear hst hyes hx
        go_wp2
        go_quiet (fail)
        go_wp2
        go_roundw
        case rel => exact ⟨k + 1, _, rfl, by omega, by go_num, by first | rfl | exact World.drewN_drewN _ _ _, hst2⟩
        case measure => simp [intOf]; omega
    · obtain rfl : k = l.length := by omega
      rw [List.take_length] at hn
      go_wp2
      go_ret
      exact ⟨⟨_, rfl, by rw [decide_eq_false hn.out]; simp⟩, bdrewN hb1.out _⟩
theorem contq_any (w : World) (a : Option Addr) (c : Nat) (l : List PP) (h : PpsAt w a l) (x : PP) (hl : l.length ≤ 1000000) :
    Calls Try.prog 38 #[.slice a l.length c, ppv x] w fun e w' => e = .returned (.bool (decide (x ∈ l))) ∧ Below w.heap.size w w' := by
  obtain ⟨q, s, t⟩ := x
  have hb1 : Below w.heap.size w (w.alloc (.cells #[.int .i64 q, .int .i64 s, .int .i64 t] TPP)) := balloc (Below.refl _ _) _
  have I := Lib.hid (indexq_any _ a c l (h.below hb1) ⟨q, s, t⟩ hl)
  clear h hl
  generalize decide ((⟨q, s, t⟩ : PP) ∈ l) = d at I
  go_enter Try.func38, Try.ntmps38
  go_wp2_with fail
  refine I.out.mono ?_
  rintro e w1 ⟨⟨r, rfl, hr⟩, hb2⟩
  go_wp2
  go_ret
  exact ⟨rfl, btrans hb1 hb2⟩
end Go.Proofs.Ytmlbjfaofppikaa
