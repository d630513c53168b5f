/- Whether a pair is among others, as Go's library tells it. Conditions: few. -/
import Derived.Test.YtfcpfcgcfaacnaaPrRin
namespace Go.Proofs.Ytfcpfcgcfaacnaa
open Go.RowKit

def IdxR (l : List PP) (x : PP) (e : Ending) : Prop := ∃ r : Int, e = .returned (.int .i64 r) ∧ ((x ∈ l ∧ 0 ≤ r) ∨ (x ∉ l ∧ r = -1))
theorem idx_yes {l : List PP} {x : PP} {r : Int} (h : x ∈ l) (hr : 0 ≤ r) : IdxR l x (.returned (.int .i64 r)) := ⟨r, rfl, .inl ⟨h, hr⟩⟩
theorem idx_no {l : List PP} {x : PP} (h : x ∉ l) : IdxR l x (.returned (.int .i64 (-1))) := ⟨-1, rfl, .inr ⟨h, rfl⟩⟩
set_option maxHeartbeats 4000000 in
theorem index_any (w : World) (a : Option Addr) (c : Nat) (l : List PP) (h : PpsAt w a l) (x : PP) (hl : l.length ≤ 1000000) :
    Calls Try.prog 49 #[.slice a l.length c, ppv x] w fun e w' => IdxR l x e ∧ Below w.heap.size w w' := by
  obtain ⟨q, s, t⟩ := x
  have r3 := RowAt.new (w := w) (T := TRq) #[.int .i64 q, .int .i64 s, .int .i64 t] rfl
  have hb1 := balloc (Below.refl w.heap.size w) (.cells #[.int .i64 q, .int .i64 s, .int .i64 t] TRq)
  have h1 := h.below hb1
  obtain ⟨w1, hw1⟩ : ∃ w1, w1 = w.alloc (.cells #[.int .i64 q, .int .i64 s, .int .i64 t] TRq) := ⟨_, rfl⟩
  rw [← hw1] at r3 hb1 h1
  have b0 : w1.cell? ⟨w.heap.size, 0, none⟩ = some (.int .i64 q) := r3.cell 0
  have b1 : w1.cell? ⟨w.heap.size, 1, none⟩ = some (.int .i64 s) := r3.cell 1
  have b2 : w1.cell? ⟨w.heap.size, 2, none⟩ = some (.int .i64 t) := r3.cell 2
  replace hb1 := Lib.hid hb1
  replace h1 := Lib.hid h1
  replace hw1 := Lib.hid hw1
  clear r3 h
  go_enter Try.func49, Try.ntmps49
  go_wp2
  change Code.wp _ _ _ _ (w.alloc (.cells #[.int .i64 q, .int .i64 s, .int .i64 t] TRq))
  rw [← hw1.out]
  clear hw1
  go_loopw [4, 8] (fun zv iv wr => ∃ k m : Nat, zv = .int .i64 0 ∧ k ≤ l.length ∧ iv = .int .i64 k ∧ wr = w1.drewN m ∧ Hid ((⟨q, s, t⟩ : PP) ∉ l.take k)) (fun _ iv _ => l.length - (intOf iv).toNat)
  case atStart => exact ⟨0, 0, rfl, Nat.zero_le _, rfl, rfl, by simp [Hid]⟩
  case round =>
    obtain ⟨k, m, rfl, hk, rfl, rfl, hn⟩ := hrel
    by_cases hlt : k < l.length
    · obtain ⟨g, o, hab, hgl, c0, c1, c2⟩ := PpsAt.at h1.out k hlt
      have hst : Hid ((⟨q, s, t⟩ : PP) ≠ l[k] → (⟨q, s, t⟩ : PP) ∉ l.take (k + 1)) := fun hne => by
        rw [List.take_add_one, List.getElem?_eq_getElem hlt, Option.toList_some, List.mem_append, not_or]
        exact ⟨hn.out, by simpa using hne⟩
      have hyes : Hid ((⟨q, s, t⟩ : PP) = l[k] → (⟨q, s, t⟩ : PP) ∈ l) := fun he => by rw [he]; exact List.getElem_mem hlt
      generalize l[k] = p at c0 c1 c2 hst hyes
      obtain ⟨x, y, z⟩ := p
      simp only at c0 c1 c2
      have hi2 : (k : Int) < (l.length : Int) := by omega
      subst hab
      clear hn
      by_cases hx : q = x
      · subst hx
        by_cases hy : s = y
        · subst hy
          by_cases hz : t = z
          · subst hz
            have hm := Lib.hid (hyes.out rfl)
            clear hst hyes
            go_wp2
            go_quiet (fail)
            go_wp2
            go_ret
            exact ⟨idx_yes hm.out (by omega), btrans hb1.out (by first | exact bdrewN (Below.refl _ _) _ | (rw [World.drewN_drewN]; exact bdrewN (Below.refl _ _) _))⟩
          · have hzb : (t == z) = false := by simpa using hz
            have hst2 : Hid ((⟨q, s, t⟩ : PP) ∉ l.take (k + 1)) := hst.out (fun e => hz (by cases e; rfl))
            clear hst hyes hz
            go_wp2
            go_quiet (fail)
            go_wp2
            go_roundw
            case rel => exact ⟨k + 1, _, rfl, by omega, by go_num, by first | rfl | exact World.drewN_drewN _ _ _, hst2⟩
            case measure => simp [intOf]; omega
        · have hyb : (s == y) = false := by simpa using hy
          have hst2 : Hid ((⟨q, s, t⟩ : PP) ∉ l.take (k + 1)) := hst.out (fun e => hy (by cases e; rfl))
          clear hst hyes hy
          go_wp2
          go_quiet (fail)
          go_wp2
          go_roundw
          case rel => exact ⟨k + 1, _, rfl, by omega, by go_num, by first | rfl | exact World.drewN_drewN _ _ _, hst2⟩
          case measure => simp [intOf]; omega
      · have hxb : (q == x) = false := by simpa using hx
        have hst2 : Hid ((⟨q, s, t⟩ : PP) ∉ l.take (k + 1)) := hst.out (fun e => hx (by cases e; rfl))
        clear hst hyes hx
        go_wp2
        go_quiet (fail)
        go_wp2
        go_roundw
        case rel => exact ⟨k + 1, _, rfl, by omega, by go_num, by first | rfl | exact World.drewN_drewN _ _ _, hst2⟩
        case measure => simp [intOf]; omega
    · obtain rfl : k = l.length := by omega
      rw [List.take_length] at hn
      go_wp2
      go_ret
      exact ⟨idx_no hn.out, btrans hb1.out (bdrewN (Below.refl _ _) _)⟩
set_option maxHeartbeats 2000000 in
theorem has_any (w : World) (a : Option Addr) (c : Nat) (l : List PP) (h : PpsAt w a l) (x : PP) (hl : l.length ≤ 1000000) :
    Calls Try.prog 23 #[.slice a l.length c, ppv x] w fun e w' => e = .returned (.bool (decide (x ∈ l))) ∧ Below w.heap.size w w' := by
  obtain ⟨q, s, t⟩ := x
  have hb1 := balloc (Below.refl w.heap.size w) (.cells #[.int .i64 q, .int .i64 s, .int .i64 t] TRq)
  obtain ⟨R, hR⟩ : ∃ R, R = decide ((⟨q, s, t⟩ : PP) ∈ l) := ⟨_, rfl⟩
  rw [← hR]
  replace hR := Lib.hid hR
  have IX := Lib.hid (index_any _ a c l (h.below hb1) ⟨q, s, t⟩ hl)
  replace hb1 := Lib.hid hb1
  replace hl := Lib.hid hl
  clear h
  go_enter Try.func23, Try.ntmps23
  go_wp2_with fail
  refine IX.out.mono ?_
  rintro e w2 ⟨⟨r, rfl, hr⟩, hb2⟩
  have hb := Lib.hid (btrans hb1.out hb2)
  rcases hr with ⟨hm, hr⟩ | ⟨hm, rfl⟩
  · have hr1 := Lib.hid (hR.out.trans (decide_eq_true hm))
    clear hm IX hb1 hb2 hR
    go_wp2
    go_ret
    rw [hr1.out]
    exact ⟨rfl, hb.out⟩
  · have hr1 := Lib.hid (hR.out.trans (decide_eq_false hm))
    clear hm IX hb1 hb2 hR
    go_wp2
    go_ret
    rw [hr1.out]
    exact ⟨rfl, hb.out⟩
end Go.Proofs.Ytfcpfcgcfaacnaa
