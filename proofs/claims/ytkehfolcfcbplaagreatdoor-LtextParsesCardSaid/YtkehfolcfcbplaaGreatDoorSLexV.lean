/- The document's Name, walked. Conditions: short texts. -/
import Derived.Test.YtkehfolcfcbplaaGreatDoorSLexH
import Derived.Test.YtkehfolcfcbplaaGreatDoorSLexS
namespace Go.Proofs.YtkehfolcfcbplaaGreatDoor
open Go.RowKit
set_option linter.unusedVariables false
theorem str_ne {s : ByteArray} {l : List UInt8} (h : ¬ s.data.toList = l) : (s.toList == l) = false := by
  rw [beq_eq_false_iff_ne, ByteArray.toList_eq]
  exact h
theorem str_ne' {s : ByteArray} {l : List UInt8} (h : ¬ s.data.toList = l) : (s.toList == ByteArray.toList ⟨l.toArray⟩) = false := by
  rw [beq_eq_false_iff_ne, ByteArray.toList_eq, ByteArray.toList_eq]
  exact h
set_option maxRecDepth 8000 in
set_option maxHeartbeats 8000000 in
theorem rname_word (w : World) (s : ByteArray) (h : s.data.toList ∈ ownW ∨ s.data.toList = []) :
    Calls Tryz.prog 64 #[.string s] w fun e w' => e = .returned (.bool false) ∧ Below w.heap.size w w' := by
  have hx : s ∈ ([⟨#[115, 101, 108, 102]⟩, ⟨#[110, 111, 110, 101]⟩, ⟨#[108, 101, 110]⟩, ⟨#[97, 116]⟩, ⟨#[]⟩] : List ByteArray) := by
    simp only [ownW, List.mem_cons, List.not_mem_nil, or_false] at h ⊢
    rcases h with (h | h | h | h) | h
    · exact .inl (take_eta h)
    · exact .inr (.inl (take_eta h))
    · exact .inr (.inr (.inl (take_eta h)))
    · exact .inr (.inr (.inr (.inl (take_eta h))))
    · exact .inr (.inr (.inr (.inr (take_eta h))))
  clear h
  simp only [List.mem_cons, List.not_mem_nil, or_false] at hx
  rcases hx with rfl | rfl | rfl | rfl | rfl <;>
    (go_enter Tryz.func64, Tryz.ntmps64
     go_wp2
     go_ret
     exact ⟨rfl, Below.refl _ _⟩)
set_option maxRecDepth 8000 in
set_option maxHeartbeats 8000000 in
theorem rname_any (w : World) (s : ByteArray) (hs : (s.size : Int) ≤ 281474976710656) :
    Calls Tryz.prog 64 #[.string s] w fun e w' => e = .returned (.bool (nameP s.data.toList)) ∧ Below w.heap.size w w' := by
  by_cases hw : s.data.toList ∈ ownW ∨ s.data.toList = []
  · have h1 := rname_word w s hw
    have h2 : nameP s.data.toList = false := by
      rcases hw with h | h
      · unfold nameP
        rw [List.contains_iff_mem.2 h]
        simp
      · rw [h]; rfl
    rw [h2]
    exact h1
  · have hn1 : ¬ s.data.toList ∈ ownW := fun h => hw (.inl h)
    have hn2 : ¬ s.data.toList = [] := fun h => hw (.inr h)
    clear hw
    have h_self : ¬ s.data.toList = [115, 101, 108, 102] := fun h => hn1 (by rw [h]; decide)
    have h_none : ¬ s.data.toList = [110, 111, 110, 101] := fun h => hn1 (by rw [h]; decide)
    have h_len : ¬ s.data.toList = [108, 101, 110] := fun h => hn1 (by rw [h]; decide)
    have h_at : ¬ s.data.toList = [97, 116] := fun h => hn1 (by rw [h]; decide)
    have hct : ownW.contains s.data.toList = false := by
      cases h : ownW.contains s.data.toList with
      | false => rfl
      | true => exact absurd (List.contains_iff_mem.1 h) hn1
    have b_self := str_ne h_self
    have d_self := str_ne' h_self
    have b_none := str_ne h_none
    have d_none := str_ne' h_none
    have b_len := str_ne h_len
    have d_len := str_ne' h_len
    have b_at := str_ne h_at
    have d_at := str_ne' h_at
    have hnl : ¬ s.toList = [] := by rw [ByteArray.toList_eq]; exact hn2
    have hne : s.toList.isEmpty = false := by
      cases h : s.toList with
      | nil => exact absurd h hnl
      | cons a b => rfl
    have h0 : 0 < s.size := by
      have h1 : s.data.toList.length = s.size := Array.length_toList
      have h2 : 0 < s.data.toList.length := List.length_pos_iff.2 hn2
      omega
    have BG := rbegins_any w s hs 0 h0
    rw [List.drop_zero, show ((0 : Nat) : Int) = 0 from rfl] at BG
    obtain ⟨L, hL⟩ : ∃ L, L = s.data.toList := ⟨_, rfl⟩
    have hLn : s.size = L.length := by rw [hL, Array.length_toList]; rfl
    rw [← hL] at BG hct ⊢
    obtain ⟨res, hres⟩ : ∃ res, res = nameP L := ⟨_, rfl⟩
    rw [← hres]
    unfold nameP at hres
    rw [hct] at hres
    clear h_self h_none h_len h_at hn1 hn2 hct hs
    by_cases h16 : s.size ≤ 16
    · have h16I : ¬ (16 : Int) < (s.size : Int) := by omega
      rw [decide_eq_true (show L.length ≤ 16 by omega)] at hres
      have hfin : Hid (∀ n k : Nat, begP L = (n, k) → res = (decide (k = 1) && decide (n = s.size))) := fun n k e => by
        unfold begP at e
        rw [hres]
        by_cases h1 : headB isLet L = true
        · rw [if_pos h1] at e
          injection e with e1 e2
          subst e1; subst e2
          rw [h1, ← hLn]
          simp
        · rw [if_neg h1] at e
          have hk : k ≠ 1 := by
            split at e
            · injection e with e1 e2; omega
            · split at e <;> (injection e with e1 e2; omega)
          have h2 : headB isLet L = false := by simpa using h1
          rw [h2, decide_eq_false hk]
          simp
      obtain ⟨p, hp⟩ : ∃ p, p = begP L := ⟨_, rfl⟩
      obtain ⟨n, k⟩ := p
      rw [← hp] at BG
      have hr := Lib.hid (hfin.out n k hp.symm)
      dsimp only at BG
      replace BG := Lib.hid BG
      clear hfin hp hres hL hLn h0 h16
      by_cases hk : k = 1
      · have hkB : ((k : Int) == 1) = true := by rw [hk]; rfl
        by_cases hn : n = s.size
        · have hr2 : res = true := by rw [hr.out, decide_eq_true hk, decide_eq_true hn]; rfl
          have hnB : ((n : Int) == (s.size : Int)) = true := by rw [hn]; exact beq_self_eq_true _
          have hnN : (n == s.size) = true := by rw [hn]; exact beq_self_eq_true _
          subst hr2
          clear hr hk hn
          go_enter Tryz.func64, Tryz.ntmps64
          go_wp2_with fail
          refine BG.out.mono ?_
          rintro e w1 ⟨rfl, hb1⟩
          go_wp2
          go_ret
          exact ⟨rfl, hb1⟩
        · have hr2 : res = false := by rw [hr.out, decide_eq_true hk, decide_eq_false hn]; rfl
          have hnB : ((n : Int) == (s.size : Int)) = false := by rw [beq_eq_false_iff_ne]; omega
          have hnN : (n == s.size) = false := by rw [beq_eq_false_iff_ne]; exact hn
          subst hr2
          clear hr hk hn
          go_enter Tryz.func64, Tryz.ntmps64
          go_wp2_with fail
          refine BG.out.mono ?_
          rintro e w1 ⟨rfl, hb1⟩
          go_wp2
          go_ret
          exact ⟨rfl, hb1⟩
      · have hkB : ((k : Int) == 1) = false := by rw [beq_eq_false_iff_ne]; omega
        have hr2 : res = false := by rw [hr.out, decide_eq_false hk]; rfl
        subst hr2
        clear hr hk
        go_enter Tryz.func64, Tryz.ntmps64
        go_wp2_with fail
        refine BG.out.mono ?_
        rintro e w1 ⟨rfl, hb1⟩
        go_wp2
        go_ret
        exact ⟨rfl, hb1⟩
    · have h16I : (16 : Int) < (s.size : Int) := by omega
      have hr : res = false := by rw [hres, decide_eq_false (show ¬ L.length ≤ 16 by omega)]; simp
      subst hr
      clear hres BG hL hLn h0 h16
      go_enter Tryz.func64, Tryz.ntmps64
      go_wp2
      go_ret
      exact ⟨rfl, Below.refl _ _⟩
end Go.Proofs.YtkehfolcfcbplaaGreatDoor
