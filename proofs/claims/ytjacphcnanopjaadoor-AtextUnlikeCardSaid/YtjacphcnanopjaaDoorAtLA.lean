/- The walks of the laws of chapter 35. Conditions: what the listed variables hold; the bounds that an argument brings along. -/
import Derived.Test.YtjacphcnanopjaaDoorAtZ
import Derived.Test.YtjacphcnanopjaaDoorAutoGood
namespace Go.Proofs.YtjacphcnanopjaaDoor
open Go.Shelf Go.RowKit
set_option linter.unusedVariables false
set_option linter.unusedSimpArgs false

theorem parse_rd {s : List UInt8} {a : AU} {n : Nat} (h : parseP s = (a, n, 0)) : ∃ k, AuRd a k 20000 ∧ k ≤ 20001 := by
  unfold parseP at h
  split at h
  · injection h with _ h; injection h with _ h; cases h
  · rename_i h20
    split at h
    · injection h with _ h; injection h with _ h; cases h
    · split at h
      · injection h with _ h; injection h with _ h; cases h
      · rename_i b hb
        split at h
        · injection h with _ h; injection h with _ h; cases h
        · split at h
          · rename_i hc
            injection h with _ h; injection h with _ h; exact absurd h hc
          · split at h
            · injection h with _ h; injection h with _ h; cases h
            · injection h with h1 h
              subst h1
              have hr := read_some (L := 20000) hb (au0_rd _) (fun l hl => by have := piece_len s 10 l (List.dropLast_subset _ hl); omega)
              refine ⟨_, hr, ?_⟩
              have := cut_len 10 s
              rw [List.length_dropLast]
              omega
theorem parse_ok (s : List UInt8) : AuOk (parseP s).1 ∧ AuFew (parseP s).1 := by
  by_cases h : (parseP s).2.2 = 0
  · obtain ⟨k, h1, h2⟩ := parse_rd (s := s) (a := (parseP s).1) (n := (parseP s).2.1) (by rw [← h])
    exact h1.ok h2
  · rw [parse_none h]
    exact (au0_rd 20000).ok (by omega)
theorem tx_of {A : AU} (ok : AuOk A) (h : chk A = 0) : AuTx A := by
  obtain ⟨h1, h2, h3, h4, h5⟩ := chk_good h
  refine ⟨by omega, fun n hn => by have := h4 n hn; omega, fun x hx => ?_⟩
  obtain ⟨o1, o2, o3, _, _⟩ := ok.nodes x hx
  exact ⟨⟨o1, o2, o3⟩, fun n hn => by have := (h5 x hx).1 n hn; omega⟩
theorem text_no {A : AU} (h : (textP A).2 ≠ 0) : (textP A).1 = [] := by
  unfold textP at h ⊢
  split at h
  · rename_i h1; rw [if_pos h1]
  · rename_i h1
    rw [if_neg h1]
    split at h
    · rename_i h2; rw [if_pos h2]
    · exact absurd rfl h
theorem text_yes {A : AU} (h : (textP A).2 = 0) : (textP A).1 = wholeP A ∧ chk A = 0 ∧ (wholeP A).length ≤ 20000 := by
  unfold textP at h ⊢
  split at h
  · rename_i h1; exact absurd h h1
  · rename_i h1
    rw [if_neg h1]
    split at h
    · cases h
    · rename_i h2
      rw [if_neg h2]
      exact ⟨rfl, Classical.not_not.1 h1, by omega⟩

set_option maxHeartbeats 4000000 in
theorem tells_walk (W : World) (hd : Door W) (c : Array Value) (A : AU) (h : rAU W c.toList A) :
    Calls Tryd.prog 3 #[.agg c] W fun e w' => e = .returned (.bool true) ∧ Below W.heap.size W w' := by
  obtain ⟨ai, ci, an, cn, hcs, hA, ok, _, _⟩ := AuAt.of_rAU h
  obtain rfl : c = #[.int .i64 A.sets, .slice ai A.init.length ci, .slice an A.nodes.length cn] := by
    cases c; simpa using hcs
  clear h hcs
  have hb0 : Below W.heap.size W (W.alloc (.cells #[.int .i64 A.sets, .slice ai A.init.length ci, .slice an A.nodes.length cn] AUT)) := balloc (Below.refl _ _) _
  have FA := heavy_any _ ai an ci cn A (hA.below hb0) ok
  have r1 := Lib.hid (RowAt.new (w := W) (T := AUT) #[.int .i64 A.sets, .slice ai A.init.length ci, .slice an A.nodes.length cn] rfl)
  replace hd := Lib.hid hd
  replace hb0 := Lib.hid hb0
  cases hf : heavyB A with
  | true =>
    rw [hf] at FA
    replace FA := Lib.hid FA
    clear hf ok hA
    go_enter Tryd.func3, Tryd.ntmps3
    go_wp2_with fail
    refine FA.out.mono ?_
    rintro e w1 ⟨rfl, hb1⟩
    replace hb1 := Lib.hid (btrans hb0.out hb1)
    go_wp2_with fail
    refine (works_true _ (hd.out.below hb1.out)).mono ?_
    rintro e w2 ⟨rfl, hb2⟩
    replace hb2 := Lib.hid (btrans hb1.out hb2)
    go_wp2
    go_ret
    exact ⟨rfl, hb2.out⟩
  | false =>
    rw [hf] at FA
    have few := few_of hf
    have TX := fun w' (hb : Below W.heap.size W w') => text_any w' (hd.out.below hb) ai an ci cn A (hA.below hb) ok few
    have TY := fun w' (hb : Below W.heap.size W w') => rtext_any w' ai an ci cn A (hA.below hb) ok few
    unfold TextV at TX TY
    generalize (textP A).1.toArray = q at TX TY
    generalize (textP A).2 = cde at TX TY
    have hq : (q == q) = true := by simp
    have hc : (cde == cde) = true := by simp
    obtain ⟨s, init, nodes⟩ := A
    simp only at FA TX TY r1 hb0
    replace FA := Lib.hid FA
    replace TX := Lib.hid TX
    replace TY := Lib.hid TY
    clear hf ok few hA
    go_enter Tryd.func3, Tryd.ntmps3
    go_wp2_with fail
    refine FA.out.mono ?_
    rintro e w1 ⟨rfl, hb1⟩
    have s1 := r1.out.below hb1
    replace hb1 := Lib.hid (btrans hb0.out hb1)
    have a0 : w1.cell? ⟨W.heap.size, 0, none⟩ = some (.int .i64 s) := s1.cell 0
    have a1 : w1.cell? ⟨W.heap.size, 1, none⟩ = some (.slice ai init.length ci) := s1.cell 1
    have a2 : w1.cell? ⟨W.heap.size, 2, none⟩ = some (.slice an nodes.length cn) := s1.cell 2
    replace s1 := Lib.hid s1
    clear FA r1 hb0
    go_wp2_with fail
    refine (TX.out _ hb1.out).mono ?_
    rintro e w2 ⟨rfl, hb2⟩
    have s2 := s1.out.below hb2
    replace hb2 := Lib.hid (btrans hb1.out hb2)
    clear a0 a1 a2 s1 hb1 TX
    have a0 : w2.cell? ⟨W.heap.size, 0, none⟩ = some (.int .i64 s) := s2.cell 0
    have a1 : w2.cell? ⟨W.heap.size, 1, none⟩ = some (.slice ai init.length ci) := s2.cell 1
    have a2 : w2.cell? ⟨W.heap.size, 2, none⟩ = some (.slice an nodes.length cn) := s2.cell 2
    clear s2
    go_wp2_with fail
    refine (TY.out _ hb2.out).mono ?_
    rintro e w3 ⟨rfl, hb3⟩
    replace hb3 := Lib.hid (btrans hb2.out hb3)
    clear a0 a1 a2 hb2 TY
    go_wp2_with fail
    refine (works_true _ (hd.out.below hb3.out)).mono ?_
    rintro e w4 ⟨rfl, hb4⟩
    replace hb4 := Lib.hid (btrans hb3.out hb4)
    go_wp2
    go_ret
    exact ⟨rfl, hb4.out⟩
end Go.Proofs.YtjacphcnanopjaaDoor
