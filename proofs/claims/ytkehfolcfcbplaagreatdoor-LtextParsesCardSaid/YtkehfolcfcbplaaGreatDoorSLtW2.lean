/- Nodes in memory, what an operation takes, how it binds and is written, and what is wrong with nodes (the document's), walked. Conditions: not too many nodes. -/
import Derived.Test.YtkehfolcfcbplaaGreatDoorSLtW1
import Derived.Test.YtkehfolcfcbplaaGreatDoorSLtQ
namespace Go.Proofs.YtkehfolcfcbplaaGreatDoor
open Go.RowKit
set_option linter.unusedVariables false
def NdAt (w : World) (a : Option Addr) (f : List Nd) : Prop := 0 < f.length → ∃ b off, a = some ⟨b, off, none⟩ ∧ ∀ i (hi : i < f.length), w.cell? ⟨b, off + i * 2, none⟩ = some (.int .i64 f[i].1) ∧ w.cell? ⟨b, off + i * 2 + 1, none⟩ = some (.int .i64 f[i].2)
theorem NdAt.below {w w' : World} {a : Option Addr} {f : List Nd} (h : NdAt w a f) (hb : Below w.heap.size w w') : NdAt w' a f := fun h0 => by
  obtain ⟨b, off, ha, hc⟩ := h h0
  exact ⟨b, off, ha, fun i hi => ⟨bcell hb (hc i hi).1, bcell hb (hc i hi).2⟩⟩
theorem takes_any (w : World) (op : Int) : Calls Tryz.prog 78 #[.int .i64 op] w fun e w' => e = .returned (.int .i64 (takesP op)) ∧ w = w' := by
  by_cases h : op = 1 ∨ op = 2 ∨ op = 3 ∨ op = 4 ∨ op = 8 ∨ op = 11 ∨ op = 12 ∨ op = 5 ∨ op = 6 ∨ op = 7 ∨ op = 9 ∨ op = 10
  · rcases h with rfl | rfl | rfl | rfl | rfl | rfl | rfl | rfl | rfl | rfl | rfl | rfl <;>
      (go_enter Tryz.func78, Tryz.ntmps78
       go_wp2
       go_ret
       exact ⟨rfl, rfl⟩)
  have b1 : (op == 1) = false := by rw [beq_eq_false_iff_ne]; omega
  have b2 : (op == 2) = false := by rw [beq_eq_false_iff_ne]; omega
  have b3 : (op == 3) = false := by rw [beq_eq_false_iff_ne]; omega
  have b4 : (op == 4) = false := by rw [beq_eq_false_iff_ne]; omega
  have b8 : (op == 8) = false := by rw [beq_eq_false_iff_ne]; omega
  have b11 : (op == 11) = false := by rw [beq_eq_false_iff_ne]; omega
  have b12 : (op == 12) = false := by rw [beq_eq_false_iff_ne]; omega
  have b5 : (op == 5) = false := by rw [beq_eq_false_iff_ne]; omega
  have b6 : (op == 6) = false := by rw [beq_eq_false_iff_ne]; omega
  have b7 : (op == 7) = false := by rw [beq_eq_false_iff_ne]; omega
  have b9 : (op == 9) = false := by rw [beq_eq_false_iff_ne]; omega
  have b10 : (op == 10) = false := by rw [beq_eq_false_iff_ne]; omega
  have hr : takesP op = -1 := by
    unfold takesP
    rw [if_neg (by omega), if_neg (by omega), if_neg (by omega)]
  rw [hr]
  clear hr h
  go_enter Tryz.func78, Tryz.ntmps78
  go_wp2
  go_ret
  exact ⟨rfl, rfl⟩
theorem rtakes_any (w : World) (op : Int) : Calls Tryz.prog 75 #[.int .i64 op] w fun e w' => e = .returned (.int .i64 (takesP op)) ∧ w = w' := by
  by_cases h : op = 1 ∨ op = 2 ∨ op = 3 ∨ op = 4 ∨ op = 8 ∨ op = 11 ∨ op = 12 ∨ op = 5 ∨ op = 6 ∨ op = 7 ∨ op = 9 ∨ op = 10
  · rcases h with rfl | rfl | rfl | rfl | rfl | rfl | rfl | rfl | rfl | rfl | rfl | rfl <;>
      (go_enter Tryz.func75, Tryz.ntmps75
       go_wp2
       go_ret
       exact ⟨rfl, rfl⟩)
  have b1 : (op == 1) = false := by rw [beq_eq_false_iff_ne]; omega
  have b2 : (op == 2) = false := by rw [beq_eq_false_iff_ne]; omega
  have b3 : (op == 3) = false := by rw [beq_eq_false_iff_ne]; omega
  have b4 : (op == 4) = false := by rw [beq_eq_false_iff_ne]; omega
  have b8 : (op == 8) = false := by rw [beq_eq_false_iff_ne]; omega
  have b11 : (op == 11) = false := by rw [beq_eq_false_iff_ne]; omega
  have b12 : (op == 12) = false := by rw [beq_eq_false_iff_ne]; omega
  have b5 : (op == 5) = false := by rw [beq_eq_false_iff_ne]; omega
  have b6 : (op == 6) = false := by rw [beq_eq_false_iff_ne]; omega
  have b7 : (op == 7) = false := by rw [beq_eq_false_iff_ne]; omega
  have b9 : (op == 9) = false := by rw [beq_eq_false_iff_ne]; omega
  have b10 : (op == 10) = false := by rw [beq_eq_false_iff_ne]; omega
  have hr : takesP op = -1 := by
    unfold takesP
    rw [if_neg (by omega), if_neg (by omega), if_neg (by omega)]
  rw [hr]
  clear hr h
  go_enter Tryz.func75, Tryz.ntmps75
  go_wp2
  go_ret
  exact ⟨rfl, rfl⟩
theorem rbinds_any (w : World) (op : Int) : Calls Tryz.prog 65 #[.int .i64 op] w fun e w' => e = .returned (.int .i64 (bindsP op : Int)) ∧ w = w' := by
  by_cases h : op = 5 ∨ op = 6 ∨ op = 7 ∨ op = 9 ∨ op = 10
  · rcases h with rfl | rfl | rfl | rfl | rfl <;>
      (go_enter Tryz.func65, Tryz.ntmps65
       go_wp2
       go_ret
       exact ⟨rfl, rfl⟩)
  have b5 : (op == 5) = false := by rw [beq_eq_false_iff_ne]; omega
  have b6 : (op == 6) = false := by rw [beq_eq_false_iff_ne]; omega
  have b7 : (op == 7) = false := by rw [beq_eq_false_iff_ne]; omega
  have b9 : (op == 9) = false := by rw [beq_eq_false_iff_ne]; omega
  have b10 : (op == 10) = false := by rw [beq_eq_false_iff_ne]; omega
  have hr : bindsP op = 5 := by
    unfold bindsP
    rw [if_neg (by omega), if_neg (by omega), if_neg (by omega), if_neg (by omega)]
  rw [hr]
  show Calls _ _ _ _ fun e w' => e = .returned (.int .i64 5) ∧ w = w'
  clear hr h
  go_enter Tryz.func65, Tryz.ntmps65
  go_wp2
  go_ret
  exact ⟨rfl, rfl⟩
theorem rsign_any (w : World) (op : Int) (h : takesP op = 0 ∧ op ≠ 3 ∨ takesP op = 1 ∨ takesP op = 2) : Calls Tryz.prog 62 #[.int .i64 op] w fun e w' => e = .returned (.string ⟨(wordP op).toArray⟩) ∧ w = w' := by
  have hx : op = 1 ∨ op = 2 ∨ op = 4 ∨ op = 5 ∨ op = 6 ∨ op = 7 ∨ op = 8 ∨ op = 9 ∨ op = 10 ∨ op = 11 ∨ op = 12 := by
    unfold takesP at h
    split at h
    · rename_i h1
      rcases h1 with rfl | rfl | rfl
      · omega
      · omega
      · rcases h with h | h | h
        · exact absurd rfl h.2
        · cases h
        · cases h
    · split at h
      · omega
      · split at h
        · omega
        · omega
  clear h
  rcases hx with rfl | rfl | rfl | rfl | rfl | rfl | rfl | rfl | rfl | rfl | rfl <;>
    (go_enter Tryz.func62, Tryz.ntmps62
     go_wp2
     go_ret
     exact ⟨rfl, rfl⟩)
def WrI (f : List Nd) (res : Nat) (i : Nat) (n : Int) : Prop := i ≤ f.length ∧ 0 ≤ n ∧ n ≤ i ∧ wrongG (f.drop i) n = res
theorem WrI.step {f : List Nd} {res i : Nat} {n : Int} (h : WrI f res i n) (hi : i < f.length) :
    (takesP f[i].1 < 0 → res = 3) ∧ (¬ takesP f[i].1 < 0 → n < takesP f[i].1 → res = 4) ∧ (¬ takesP f[i].1 < 0 → ¬ n < takesP f[i].1 → f[i].1 = 3 → (f[i].2 < 0 ∨ 8 ≤ f[i].2) → res = 10) ∧ (¬ takesP f[i].1 < 0 → ¬ n < takesP f[i].1 → ¬ (f[i].1 = 3 ∧ (f[i].2 < 0 ∨ 8 ≤ f[i].2)) → WrI f res (i + 1) (n - takesP f[i].1 + 1)) := by
  obtain ⟨h1, h2, h3, h4⟩ := h
  rw [List.drop_eq_getElem_cons hi, wrongG] at h4
  have ht := takes_le f[i].1
  refine ⟨fun e => ?_, fun e1 e2 => ?_, fun e1 e2 e3 e4 => ?_, fun e1 e2 e3 => ?_⟩
  · rw [if_pos e] at h4; exact h4.symm
  · rw [if_neg e1, if_pos e2] at h4; exact h4.symm
  · rw [if_neg e1, if_neg e2, if_pos ⟨e3, e4⟩] at h4; exact h4.symm
  · rw [if_neg e1, if_neg e2, if_neg e3] at h4
    exact ⟨hi, by omega, by omega, h4⟩
theorem WrI.fin {f : List Nd} {res i : Nat} {n : Int} (h : WrI f res i n) (hi : i = f.length) : res = if 1 < n then 5 else 0 := by
  obtain ⟨h1, h2, h3, h4⟩ := h
  rw [hi, List.drop_length, wrongG] at h4
  exact h4.symm
set_option maxRecDepth 8000 in
set_option maxHeartbeats 4000000 in
theorem rwrong_any (w : World) (a : Option Addr) (c : Nat) (f : List Nd) (hf : NdAt w a f) (hl : f.length ≤ 100000) :
    Calls Tryz.prog 63 #[.slice a f.length c] w fun e w' => e = .returned (.int .i64 (wrongP f : Int)) ∧ w = w' := by
  obtain ⟨res, hres⟩ : ∃ res, res = wrongP f := ⟨_, rfl⟩
  rw [← hres]
  unfold wrongP at hres
  by_cases h0 : f = []
  · rw [if_pos h0] at hres
    subst hres
    subst h0
    clear hf hl
    show Calls _ _ #[.slice a 0 c] _ _
    go_enter Tryz.func63, Tryz.ntmps63
    go_wp2
    go_ret
    exact ⟨rfl, rfl⟩
  · rw [if_neg h0] at hres
    have hpos : 0 < f.length := List.length_pos_iff.2 h0
    have W0 : Hid (WrI f res 0 0) := ⟨Nat.zero_le _, Int.le_refl _, Int.le_refl _, hres.symm⟩
    obtain ⟨n, hn⟩ : ∃ n, n = f.length := ⟨_, rfl⟩
    rw [← hn]
    have hnB : ((n : Int) == 0) = false := by rw [beq_eq_false_iff_ne]; omega
    have hnI : (n : Int) ≤ 100000 := by omega
    replace hn := Lib.hid hn
    replace hf := Lib.hid hf
    clear hres h0 hpos hl
    go_enter Tryz.func63, Tryz.ntmps63
    go_wp2
    go_loop [2, 3, 4] (fun ev nv iv => ∃ (i : Nat) (m : Int), ev = .int .i64 0 ∧ nv = .int .i64 m ∧ iv = .int .i64 (i : Int) ∧ i ≤ n ∧ 0 ≤ m ∧ m ≤ 100000 ∧ Hid (WrI f res i m)) (fun _ _ iv => n - (intOf iv).toNat)
    case atStart => exact ⟨0, 0, rfl, rfl, rfl, Nat.zero_le _, Int.le_refl _, by decide, W0⟩
    case round =>
      obtain ⟨i, m, rfl, rfl, rfl, hi, hm0, hm1, wi⟩ := hrel
      clear W0
      by_cases hlt : i < n
      · have hlI : (i : Int) < (n : Int) := by omega
        have hif : i < f.length := by have := hn.out; omega
        obtain ⟨b, off, ea, hc⟩ := hf.out (by omega)
        obtain ⟨c0, c1⟩ := hc i hif
        subst ea
        obtain ⟨s1, s2, s3, s4⟩ := wi.out.step hif
        have T1 := rtakes_any w f[i].1
        have ht := takes_le f[i].1
        obtain ⟨xy, hxy⟩ : ∃ xy, xy = f[i] := ⟨_, rfl⟩
        rw [← hxy] at c0 c1 s1 s2 s3 s4 T1 ht
        clear hxy
        obtain ⟨x, y⟩ := xy
        dsimp only at c0 c1 s1 s2 s3 s4 T1 ht
        clear hc hif wi
        generalize hk : takesP x = k at s1 s2 s3 s4 T1 ht
        replace T1 := Lib.hid T1
        replace s1 := Lib.hid s1
        replace s2 := Lib.hid s2
        replace s3 := Lib.hid s3
        replace s4 := Lib.hid s4
        clear hk
        go_wp2_with fail
        refine T1.out.mono ?_
        rintro e w1 ⟨rfl, rfl⟩
        clear T1
        by_cases hk0 : k < 0
        · have hr := Lib.hid (s1.out hk0)
          go_wp2
          go_ret
          exact ⟨by rw [hr.out]; rfl, rfl⟩
        · by_cases hk1 : m < k
          · have hr := Lib.hid (s2.out (by omega) (by omega))
            go_wp2
            go_ret
            exact ⟨by rw [hr.out]; rfl, rfl⟩
          · by_cases hx3 : x = 3
            · have hxB : (x == 3) = true := by rw [hx3]; rfl
              by_cases hy0 : y < 0
              · have hr := Lib.hid (s3.out (by omega) (by omega) hx3 (.inl hy0))
                clear hx3 s1 s2 s3 s4
                go_wp2
                go_ret
                exact ⟨by rw [hr.out]; rfl, rfl⟩
              · by_cases hy8 : 8 ≤ y
                · have hr := Lib.hid (s3.out (by omega) (by omega) hx3 (.inr hy8))
                  clear hx3 s1 s2 s3 s4
                  go_wp2
                  go_ret
                  exact ⟨by rw [hr.out]; rfl, rfl⟩
                · have hr := Lib.hid (s4.out (by omega) (by omega) (fun e => by omega))
                  have hb : m - k + 1 ≤ 100000 := by have h1 := hr.out; have h2 := h1.2.2.1; omega
                  have hb0 : 0 ≤ m - k + 1 := by omega
                  clear hx3 s1 s2 s3 s4
                  go_wp2
                  go_round
                  case rel => exact ⟨i + 1, m - k + 1, rfl, rfl, by go_num, by omega, hb0, hb, hr⟩
                  case measure => simp [intOf]; omega
            · have hxB : (x == 3) = false := by rw [beq_eq_false_iff_ne]; exact hx3
              have hr := Lib.hid (s4.out (by omega) (by omega) (fun e => hx3 e.1))
              have hb : m - k + 1 ≤ 100000 := by have h1 := hr.out; have h2 := h1.2.2.1; omega
              have hb0 : 0 ≤ m - k + 1 := by omega
              clear hx3 s1 s2 s3 s4
              go_wp2
              go_round
              case rel => exact ⟨i + 1, m - k + 1, rfl, rfl, by go_num, by omega, hb0, hb, hr⟩
              case measure => simp [intOf]; omega
      · have hlI : ¬ (i : Int) < (n : Int) := by omega
        have hr := wi.out.fin (by have := hn.out; omega)
        clear wi
        by_cases hm : 1 < m
        · rw [if_pos hm] at hr
          replace hr := Lib.hid hr
          go_wp2
          go_ret
          exact ⟨by rw [hr.out]; rfl, rfl⟩
        · rw [if_neg hm] at hr
          replace hr := Lib.hid hr
          go_wp2
          go_ret
          exact ⟨by rw [hr.out]; rfl, rfl⟩
theorem rcheck_any (w : World) (a : Option Addr) (c : Nat) (f : List Nd) (hf : NdAt w a f) (hl : f.length ≤ 100000) :
    Calls Tryz.prog 40 #[.slice a f.length c] w fun e w' => e = .returned (.int .i64 (checkP f : Int)) ∧ w = w' := by
  have C := Lib.hid (rwrong_any w a c f hf hl)
  obtain ⟨res, hres⟩ : ∃ res, res = checkP f := ⟨_, rfl⟩
  rw [← hres]
  unfold checkP at hres
  generalize wrongP f = wr at C hres
  by_cases h : 24 < f.length
  · rw [if_pos h] at hres
    have hI : (24 : Int) < (f.length : Int) := by omega
    subst hres
    clear h hf hl C
    go_enter Tryz.func40, Tryz.ntmps40
    go_wp2
    go_ret
    exact ⟨rfl, rfl⟩
  · rw [if_neg h] at hres
    have hI : ¬ (24 : Int) < (f.length : Int) := by omega
    subst hres
    clear h hf hl
    go_enter Tryz.func40, Tryz.ntmps40
    go_wp2_with fail
    refine C.out.mono ?_
    rintro e w1 ⟨rfl, rfl⟩
    go_wp2
    go_ret
    exact ⟨rfl, rfl⟩
theorem ris_formula (w : World) (a : Option Addr) (c : Nat) (f : List Nd) (hf : NdAt w a f) (hl : f.length ≤ 100000) (h0 : wrongP f = 0) :
    Calls Tryz.prog 76 #[.slice a f.length c] w fun e w' => e = .returned (.bool true) ∧ w = w' := by
  have C := rwrong_any w a c f hf hl
  rw [h0] at C
  replace C := Lib.hid C
  clear hf hl h0
  go_enter Tryz.func76, Tryz.ntmps76
  go_wp2_with fail
  refine C.out.mono ?_
  rintro e w1 ⟨rfl, rfl⟩
  go_wp2
  go_ret
  exact ⟨rfl, rfl⟩
end Go.Proofs.YtkehfolcfcbplaaGreatDoor
