/- The walks of layer perm's calls, third part: one behind another one, a list moved, that which leads back. Conditions: lengths within int. -/
import Derived.Test.YtdjneckgckagdaaPermWalks2
namespace Go.Proofs.Ytdjneckgckagdaa
open Go.RowKit

/-- a list moved, its first k numbers alone -/
def scatL (p l : List Int) (k : Nat) : List Int := (List.range p.length).map fun (j : Nat) => if Perm.place p j < k then l.getD (Perm.place p j).toNat 0 else 0
theorem scat_len (p l : List Int) (k : Nat) : (scatL p l k).length = p.length := by simp [scatL]
theorem scat_zero {p l : List Int} (h : Perm.Ok p) : scatL p l 0 = List.replicate p.length 0 := by
  apply List.ext_getElem
  · simp [scatL]
  · intro i h1 h2
    rw [scat_len] at h1
    have := (Perm.inv_of h i h1).1
    simp only [scatL, List.getElem_map, List.getElem_range, List.getElem_replicate]
    rw [if_neg (by omega)]
theorem scat_all {p l : List Int} (h : Perm.Ok p) : scatL p l p.length = Perm.moveL p l := by
  apply List.ext_getElem
  · simp [scatL, Perm.moveL]
  · intro i h1 h2
    rw [scat_len] at h1
    have := Perm.inv_of h i h1
    simp only [scatL, Perm.moveL, List.getElem_map, List.getElem_range]
    rw [if_pos (by omega)]
theorem scat_set {p l : List Int} (h : Perm.Ok p) (k : Nat) (hk : k < p.length) (j : Nat) (hj : p.getD k 0 = (j : Int)) : (scatL p l k).set j (l.getD k 0) = scatL p l (k + 1) := by
  apply List.ext_getElem
  · simp [scatL]
  · intro i h1 h2
    rw [List.length_set, scat_len] at h1
    have hp := Perm.place_self h k hk
    rw [hj] at hp
    rw [List.getElem_set]
    split
    · rename_i e
      subst e
      simp only [scatL, List.getElem_map, List.getElem_range]
      rw [if_pos (by omega), hp, Int.toNat_natCast]
    · rename_i e
      simp only [scatL, List.getElem_map, List.getElem_range]
      have hi := Perm.inv_of h i h1
      have hne : Perm.place p i ≠ k := fun he => by
        have := hi.2.2
        rw [he, Int.toNat_natCast, hj] at this
        omega
      by_cases hlt : Perm.place p i < k
      · rw [if_pos hlt, if_pos (by omega)]
      · rw [if_neg hlt, if_neg (by omega)]

theorem mul_no1 {a b : List Int} (h : Perm.okB a = false) : Perm.mul a b = [] := if_neg (fun g => by simp [h] at g)
theorem mul_no2 {a b : List Int} (h : Perm.okB b = false) : Perm.mul a b = [] := if_neg (fun g => by simp [h] at g)
theorem mul_no3 {a b : List Int} (h : ¬ a.length = b.length) : Perm.mul a b = [] := if_neg (fun g => h g.2.2)
theorem move_no1 {a b : List Int} (h : Perm.okB a = false) : Perm.move a b = [] := if_neg (fun g => by simp [h] at g)
theorem move_no3 {a b : List Int} (h : ¬ b.length = a.length) : Perm.move a b = [] := if_neg (fun g => h g.2)
theorem inv_no {a : List Int} (h : Perm.okB a = false) : Perm.inv a = [] := if_neg (fun g => by simp [h] at g)
def mulP (a b : List Int) (k : Nat) : List Int := (List.range k).map fun i => b.getD (a.getD i 0).toNat 0
def moveP (p l : List Int) (k : Nat) : List Int := (List.range k).map fun (i : Nat) => l.getD (Perm.place p i).toNat 0
def invP (p : List Int) (k : Nat) : List Int := (List.range k).map fun (i : Nat) => Perm.place p i
theorem map_snoc (f : Nat → Int) (k : Nat) : (List.range k).map f ++ [f k] = (List.range (k + 1)).map f := by simp [List.range_succ]
theorem mulP_snoc (a b : List Int) (k : Nat) {y : Int} (hy : y = b.getD (a.getD k 0).toNat 0) : mulP a b k ++ [y] = mulP a b (k + 1) := by rw [hy]; exact map_snoc _ k
theorem moveP_snoc (p l : List Int) (k : Nat) {y : Int} (hy : y = l.getD (Perm.place p k).toNat 0) : moveP p l k ++ [y] = moveP p l (k + 1) := by rw [hy]; exact map_snoc _ k
theorem invP_snoc (p : List Int) (k : Nat) {y : Int} (hy : y = Perm.place p k) : invP p k ++ [y] = invP p (k + 1) := by rw [hy]; exact map_snoc (fun (i : Nat) => Perm.place p i) k

theorem mul_any (w : World) (a1 a2 : Option Addr) (n1 c1 n2 c2 : Nat) (xs ys : List Int) (h1 : NumsAt .i64 w a1 xs) (h2 : NumsAt .i64 w a2 ys) (hn1 : n1 = xs.length) (hn2 : n2 = ys.length) (b1 : n1 ≤ 9223372036854775807) (b2 : n2 ≤ 9223372036854775807) :
    Calls Try.prog 10 #[.slice a1 n1 c1, .slice a2 n2 c2] w (GivesInts (Perm.mul xs ys) w) := by
  subst hn1 hn2
  have C1 := Lib.hid (fun w' h => check_any w' a1 xs.length c1 xs h rfl b1)
  have C2 := Lib.hid (fun w' h => check_any w' a2 ys.length c2 ys h rfl b2)
  by_cases hx : Perm.okB xs = true
  · have hX := Lib.hid hx
    by_cases hy : Perm.okB ys = true
    · have hY := Lib.hid hy
      rw [hx] at C1
      rw [hy] at C2
      clear hx hy
      by_cases hl : xs.length = ys.length
      · have hl' : ((xs.length : Int) != (ys.length : Int)) = false := by simp [hl]
        have hL := Lib.hid hl
        have oX := Lib.hid ((Perm.okB_iff xs).1 hX.out)
        have oY := Lib.hid ((Perm.okB_iff ys).1 hY.out)
        have h8 : xs.length ≤ 8 := oX.out.small
        have hf := Lib.hid (Perm.mul_of oX.out oY.out hl)
        clear hl
        go_enter Try.func10, Try.ntmps10
        go_wp2_with fail
        refine (C1.out _ h1).mono ?_
        rintro e w1 ⟨rfl, hb1⟩
        go_wp2_with fail
        refine (C2.out _ (h2.below hb1)).mono ?_
        rintro e w2 ⟨rfl, hb2⟩
        have hb := btrans hb1 hb2
        clear hb1 hb2
        have hz := hb.size
        go_wp2_with (at_make; refine wp_make rfl _ _ 22 3 .i64 8 rfl Try.underlying22 Try.infoInt w.heap.size xs.length rfl rfl (by omega) (by omega) hz ?_)
        intro w3 hown hg
        have hb3 := bgrown hb hg (by simp)
        rw [← fill_zero xs.length (fun i => ys.getD (xs.getD i 0).toNat 0)] at hown
        obtain ⟨B, hB, hBz⟩ : ∃ B, B = w2.heap.size ∧ w.heap.size ≤ B := ⟨_, rfl, hz⟩
        rw [← hB] at hown ⊢
        clear hg hb hB hz
        go_wp2
        go_loopw [28] (fun i wr => ∃ k : Nat, k ≤ xs.length ∧ i = .int .i64 k ∧ OwnN .i64 wr w.heap.size 3 (some ⟨B, 0, none⟩) xs.length xs.length (fillL xs.length (fun i => ys.getD (xs.getD i 0).toNat 0) k) ∧ Below w.heap.size w wr) (fun i _ => xs.length - (intOf i).toNat)
        case atStart => exact ⟨0, Nat.zero_le _, rfl, hown, hb3⟩
        case round =>
          obtain ⟨k, hk, rfl, ho, hb⟩ := hrel
          by_cases hlt : k < xs.length
          · obtain ⟨b, off, x, rfl, hbb, c1, hx⟩ := h1.atb hb k hlt
            have hxr : 0 ≤ x ∧ x < xs.length := by rw [hx.out]; exact oX.out.range k hlt
            obtain ⟨j, rfl⟩ := Int.eq_ofNat_of_zero_le hxr.1
            have hj : j < ys.length := by have := hL.out; omega
            obtain ⟨b', off', y, rfl, hbb', c2, hy⟩ := h2.atb hb j hj
            obtain ⟨z, e2, _⟩ := own_at ho k (by rw [fill_len]; omega)
            have e3 := ho.free k
            have ho2 := own_set ho k y
            have hs : Hid ((fillL xs.length (fun i => ys.getD (xs.getD i 0).toNat 0) k).set k y = fillL xs.length (fun i => ys.getD (xs.getD i 0).toNat 0) (k + 1)) := by
              show _ = _
              rw [← fill_set, ← hx.out, Int.toNat_natCast, ← hy.out]
            rw [hs.out] at ho2
            have hb2 := hb.setCell (p := ⟨B, k, none⟩) hBz (.int .i64 y)
            go_wp2
            go_roundw
            case rel => exact ⟨k + 1, by omega, by go_num, ho2, hb2⟩
            case measure => simp [intOf]; omega
          · obtain rfl : k = xs.length := by omega
            go_wp2
            go_ret
            exact gives_own ho (by rw [fill_all, hf.out]; rfl) hb
      · have hl' : ((xs.length : Int) != (ys.length : Int)) = true := by simp; omega
        have hf := Lib.hid (mul_no3 (a := xs) (b := ys) hl)
        clear hl
        go_enter Try.func10, Try.ntmps10
        go_wp2_with fail
        refine (C1.out _ h1).mono ?_
        rintro e w1 ⟨rfl, hb1⟩
        go_wp2_with fail
        refine (C2.out _ (h2.below hb1)).mono ?_
        rintro e w2 ⟨rfl, hb2⟩
        have hb := btrans hb1 hb2
        clear hb1 hb2
        go_wp2
        go_ret
        exact gives_nil hf.out hb
    · have hy' : Perm.okB ys = false := by simpa using hy
      have hf := Lib.hid (mul_no2 (a := xs) hy')
      rw [hx] at C1
      rw [hy'] at C2
      clear hx hy hy'
      go_enter Try.func10, Try.ntmps10
      go_wp2_with fail
      refine (C1.out _ h1).mono ?_
      rintro e w1 ⟨rfl, hb1⟩
      go_wp2_with fail
      refine (C2.out _ (h2.below hb1)).mono ?_
      rintro e w2 ⟨rfl, hb2⟩
      go_wp2
      go_ret
      exact gives_nil hf.out (btrans hb1 hb2)
  · have hx' : Perm.okB xs = false := by simpa using hx
    have hf := Lib.hid (mul_no1 (b := ys) hx')
    rw [hx'] at C1
    clear hx hx'
    go_enter Try.func10, Try.ntmps10
    go_wp2_with fail
    refine (C1.out _ h1).mono ?_
    rintro e w1 ⟨rfl, hb1⟩
    go_wp2
    go_ret
    exact gives_nil hf.out hb1

theorem rmul_any (w : World) (a1 a2 : Option Addr) (n1 c1 n2 c2 : Nat) (xs ys : List Int) (h1 : NumsAt .i64 w a1 xs) (h2 : NumsAt .i64 w a2 ys) (hn1 : n1 = xs.length) (hn2 : n2 = ys.length) (b1 : n1 ≤ 9223372036854775807) (b2 : n2 ≤ 9223372036854775807) :
    Calls Try.prog 11 #[.slice a1 n1 c1, .slice a2 n2 c2] w (GivesInts (Perm.mul xs ys) w) := by
  subst hn1 hn2
  have C1 := Lib.hid (fun w' h => rcheck_any w' a1 xs.length c1 xs h rfl b1)
  have C2 := Lib.hid (fun w' h => rcheck_any w' a2 ys.length c2 ys h rfl b2)
  by_cases hx : Perm.okB xs = true
  · have hX := Lib.hid hx
    by_cases hy : Perm.okB ys = true
    · have hY := Lib.hid hy
      rw [hx] at C1
      rw [hy] at C2
      clear hx hy
      by_cases hl : xs.length = ys.length
      · have hl' : ((xs.length : Int) != (ys.length : Int)) = false := by simp [hl]
        have hL := Lib.hid hl
        have oX := Lib.hid ((Perm.okB_iff xs).1 hX.out)
        have oY := Lib.hid ((Perm.okB_iff ys).1 hY.out)
        have h8 : xs.length ≤ 8 := oX.out.small
        have hf := Lib.hid (Perm.mul_of oX.out oY.out hl)
        clear hl
        go_enter Try.func11, Try.ntmps11
        go_wp2_with fail
        refine (C1.out _ h1).mono ?_
        rintro e w1 ⟨rfl, rfl⟩
        go_wp2_with fail
        refine (C2.out _ h2).mono ?_
        rintro e w2 ⟨rfl, rfl⟩
        have hb := Below.refl w.heap.size w
        go_wp2
        go_loopw [5, 6] (fun v i wr => ∃ (k : Nat) (a : Option Addr) (cap : Nat), k ≤ xs.length ∧ i = .int .i64 k ∧ v = .slice a k cap ∧ OwnN .i64 wr w.heap.size 3 a k cap (mulP xs ys k) ∧ Below w.heap.size w wr) (fun _ i _ => xs.length - (intOf i).toNat)
        case atStart => exact ⟨0, none, 0, Nat.zero_le _, rfl, rfl, OwnN.nil _ _ _ _, hb⟩
        case round =>
          obtain ⟨k, a, cap, hk, rfl, rfl, ho, hb⟩ := hrel
          have hz := hb.size
          by_cases hlt : k < xs.length
          · obtain ⟨b, off, x, rfl, hbb, c1, hx⟩ := h1.atb hb k hlt
            have hxr : 0 ≤ x ∧ x < xs.length := by rw [hx.out]; exact oX.out.range k hlt
            obtain ⟨j, rfl⟩ := Int.eq_ofNat_of_zero_le hxr.1
            have hj : j < ys.length := by have := hL.out; omega
            obtain ⟨b', off', y, rfl, hbb', c2, hy⟩ := h2.atb hb j hj
            go_wp2_with (at_builtin; refine wp_app1 rfl _ _ 22 3 .i64 8 rfl Try.underlying22 Try.infoInt w.heap.size a k cap _ rfl (ho.alloc _) wr.heap.size 1 y rfl (new_cell1 _ _ _) (by omega) (by omega) (by simp; omega) ?_)
            intro a' cap' w' ho' hg
            have hb' := bgrown (balloc hb _) hg ho.block
            have hs := Lib.hid (mulP_snoc xs ys k (y := y) (by rw [← hx.out, Int.toNat_natCast, ← hy.out]))
            rw [hs.out] at ho'
            clear hg ho
            go_wp2
            go_roundw
            case rel => exact ⟨k + 1, a', cap', by omega, by go_num, rfl, ho', hb'⟩
            case measure => simp [intOf]; omega
          · obtain rfl : k = xs.length := by omega
            go_wp2
            go_ret
            exact gives_own ho (by rw [hf.out]; rfl) hb
      · have hl' : ((xs.length : Int) != (ys.length : Int)) = true := by simp; omega
        have hf := Lib.hid (mul_no3 (a := xs) (b := ys) hl)
        clear hl
        go_enter Try.func11, Try.ntmps11
        go_wp2_with fail
        refine (C1.out _ h1).mono ?_
        rintro e w1 ⟨rfl, rfl⟩
        go_wp2_with fail
        refine (C2.out _ h2).mono ?_
        rintro e w2 ⟨rfl, rfl⟩
        have hb := Below.refl w.heap.size w
        go_wp2
        go_ret
        exact gives_nil hf.out hb
    · have hy' : Perm.okB ys = false := by simpa using hy
      have hf := Lib.hid (mul_no2 (a := xs) hy')
      rw [hx] at C1
      rw [hy'] at C2
      clear hx hy hy'
      go_enter Try.func11, Try.ntmps11
      go_wp2_with fail
      refine (C1.out _ h1).mono ?_
      rintro e w1 ⟨rfl, rfl⟩
      go_wp2_with fail
      refine (C2.out _ h2).mono ?_
      rintro e w2 ⟨rfl, rfl⟩
      go_wp2
      go_ret
      exact gives_nil hf.out (Below.refl _ _)
  · have hx' : Perm.okB xs = false := by simpa using hx
    have hf := Lib.hid (mul_no1 (b := ys) hx')
    rw [hx'] at C1
    clear hx hx'
    go_enter Try.func11, Try.ntmps11
    go_wp2_with fail
    refine (C1.out _ h1).mono ?_
    rintro e w1 ⟨rfl, rfl⟩
    go_wp2
    go_ret
    exact gives_nil hf.out (Below.refl _ _)

theorem move_any (w : World) (a1 a2 : Option Addr) (n1 c1 n2 c2 : Nat) (xs ys : List Int) (h1 : NumsAt .i64 w a1 xs) (h2 : NumsAt .i64 w a2 ys) (hn1 : n1 = xs.length) (hn2 : n2 = ys.length) (b1 : n1 ≤ 9223372036854775807) (b2 : n2 ≤ 9223372036854775807) :
    Calls Try.prog 12 #[.slice a1 n1 c1, .slice a2 n2 c2] w (GivesInts (Perm.move xs ys) w) := by
  subst hn1 hn2
  have C1 := Lib.hid (fun w' h => check_any w' a1 xs.length c1 xs h rfl b1)
  by_cases hx : Perm.okB xs = true
  · have hX := Lib.hid hx
    rw [hx] at C1
    clear hx
    by_cases hl : ys.length = xs.length
    · have hl' : ((ys.length : Int) != (xs.length : Int)) = false := by simp [hl]
      have hL := Lib.hid hl
      have oX := Lib.hid ((Perm.okB_iff xs).1 hX.out)
      have h8 : ys.length ≤ 8 := by rw [hl]; exact oX.out.small
      have h8x : xs.length ≤ 8 := oX.out.small
      have hf := Lib.hid (Perm.move_of oX.out hl)
      clear hl
      go_enter Try.func12, Try.ntmps12
      go_wp2_with fail
      refine (C1.out _ h1).mono ?_
      rintro e w1 ⟨rfl, hb⟩
      have hz := hb.size
      go_wp2_with (at_make; refine wp_make rfl _ _ 22 3 .i64 8 rfl Try.underlying22 Try.infoInt w.heap.size ys.length rfl rfl (by omega) (by omega) hz ?_)
      intro w3 hown hg
      have hb3 := bgrown hb hg (by simp)
      have hown2 : OwnN .i64 w3 w.heap.size 3 (some ⟨w1.heap.size, 0, none⟩) ys.length ys.length (scatL xs ys 0) := by rw [scat_zero oX.out, ← hL.out]; exact hown
      obtain ⟨B, hB, hBz⟩ : ∃ B, B = w1.heap.size ∧ w.heap.size ≤ B := ⟨_, rfl, hz⟩
      rw [← hB] at hown2 ⊢
      clear hg hb hB hz hown
      go_wp2
      go_loopw [23] (fun i wr => ∃ k : Nat, k ≤ xs.length ∧ i = .int .i64 k ∧ OwnN .i64 wr w.heap.size 3 (some ⟨B, 0, none⟩) ys.length ys.length (scatL xs ys k) ∧ Below w.heap.size w wr) (fun i _ => xs.length - (intOf i).toNat)
      case atStart => exact ⟨0, Nat.zero_le _, rfl, hown2, hb3⟩
      case round =>
        obtain ⟨k, hk, rfl, ho, hb⟩ := hrel
        by_cases hlt : k < xs.length
        · obtain ⟨b, off, x, rfl, hbb, c1, hx⟩ := h1.atb hb k hlt
          have hxr : 0 ≤ x ∧ x < xs.length := by rw [hx.out]; exact oX.out.range k hlt
          obtain ⟨j, rfl⟩ := Int.eq_ofNat_of_zero_le hxr.1
          have hk2 : k < ys.length := by have := hL.out; omega
          have hj : j < ys.length := by have := hL.out; omega
          obtain ⟨b', off', y, rfl, hbb', c2, hy⟩ := h2.atb hb k hk2
          obtain ⟨z, e2, _⟩ := own_at ho j (by rw [scat_len]; omega)
          have e3 := ho.free j
          have ho2 := own_set ho j y
          have hs : Hid ((scatL xs ys k).set j y = scatL xs ys (k + 1)) := by
            show _ = _
            rw [← scat_set oX.out k hlt j hx.out.symm, ← hy.out]
          rw [hs.out] at ho2
          have hb2 := hb.setCell (p := ⟨B, j, none⟩) hBz (.int .i64 y)
          go_wp2
          go_roundw
          case rel => exact ⟨k + 1, by omega, by go_num, ho2, hb2⟩
          case measure => simp [intOf]; omega
        · obtain rfl : k = xs.length := by omega
          go_wp2
          go_ret
          exact gives_own ho (by rw [scat_all oX.out, hf.out]) hb
    · have hl' : ((ys.length : Int) != (xs.length : Int)) = true := by simp; omega
      have hf := Lib.hid (move_no3 (a := xs) (b := ys) hl)
      clear hl
      go_enter Try.func12, Try.ntmps12
      go_wp2_with fail
      refine (C1.out _ h1).mono ?_
      rintro e w1 ⟨rfl, hb⟩
      go_wp2
      go_ret
      exact gives_nil hf.out hb
  · have hx' : Perm.okB xs = false := by simpa using hx
    have hf := Lib.hid (move_no1 (b := ys) hx')
    rw [hx'] at C1
    clear hx hx'
    go_enter Try.func12, Try.ntmps12
    go_wp2_with fail
    refine (C1.out _ h1).mono ?_
    rintro e w1 ⟨rfl, hb⟩
    go_wp2
    go_ret
    exact gives_nil hf.out hb

theorem rmove_any (w : World) (a1 a2 : Option Addr) (n1 c1 n2 c2 : Nat) (xs ys : List Int) (h1 : NumsAt .i64 w a1 xs) (h2 : NumsAt .i64 w a2 ys) (hn1 : n1 = xs.length) (hn2 : n2 = ys.length) (b1 : n1 ≤ 9223372036854775807) (b2 : n2 ≤ 9223372036854775807) :
    Calls Try.prog 13 #[.slice a1 n1 c1, .slice a2 n2 c2] w (GivesInts (Perm.move xs ys) w) := by
  subst hn1 hn2
  have C1 := Lib.hid (fun w' h => rcheck_any w' a1 xs.length c1 xs h rfl b1)
  by_cases hx : Perm.okB xs = true
  · have hX := Lib.hid hx
    rw [hx] at C1
    clear hx
    by_cases hl : ys.length = xs.length
    · have hl' : ((ys.length : Int) != (xs.length : Int)) = false := by simp [hl]
      have hL := Lib.hid hl
      have oX := Lib.hid ((Perm.okB_iff xs).1 hX.out)
      have h8 : ys.length ≤ 8 := by rw [hl]; exact oX.out.small
      have h8x : xs.length ≤ 8 := oX.out.small
      have hf := Lib.hid (Perm.move_of oX.out hl)
      clear hl
      go_enter Try.func13, Try.ntmps13
      go_wp2_with fail
      refine (C1.out _ h1).mono ?_
      rintro e w1 ⟨rfl, rfl⟩
      have hb := Below.refl w.heap.size w
      go_wp2
      go_loopw [5, 6] (fun v i wr => ∃ (k : Nat) (a : Option Addr) (cap : Nat), k ≤ xs.length ∧ i = .int .i64 k ∧ v = .slice a k cap ∧ OwnN .i64 wr w.heap.size 3 a k cap (moveP xs ys k) ∧ Below w.heap.size w wr) (fun _ i _ => xs.length - (intOf i).toNat)
      case atStart => exact ⟨0, none, 0, Nat.zero_le _, rfl, rfl, OwnN.nil _ _ _ _, hb⟩
      case round =>
        obtain ⟨k, a, cap, hk, rfl, rfl, ho, hb⟩ := hrel
        have hz := hb.size
        by_cases hlt : k < xs.length
        · have hpl := Perm.inv_of oX.out k hlt
          obtain ⟨j, hj⟩ := Int.eq_ofNat_of_zero_le hpl.1
          have C := fun w h => rplace_any w a1 xs.length c1 xs k h rfl b1
          rw [hj] at C hpl
          rw [Int.toNat_natCast] at hpl
          have hj2 : j < ys.length := by have := hL.out; omega
          have CC := Lib.hid C
          have HJ := Lib.hid hj
          clear C hj hpl
          obtain ⟨b', off', y, rfl, hbb', c2, hy⟩ := h2.atb hb j hj2
          go_wp2_with fail
          refine (CC.out _ (h1.below hb)).mono ?_
          rintro e w9 ⟨rfl, rfl⟩
          go_wp2_with (at_builtin; refine wp_app1 rfl _ _ 22 3 .i64 8 rfl Try.underlying22 Try.infoInt w.heap.size a k cap _ rfl (ho.alloc _) wr.heap.size 1 y rfl (new_cell1 _ _ _) (by omega) (by omega) (by simp; omega) ?_)
          intro a' cap' w' ho' hg
          have hb' := bgrown (balloc hb _) hg ho.block
          have hs := Lib.hid (moveP_snoc xs ys k (y := y) (by rw [HJ.out, Int.toNat_natCast, ← hy.out]))
          rw [hs.out] at ho'
          clear hg ho
          go_wp2
          go_roundw
          case rel => exact ⟨k + 1, a', cap', by omega, by go_num, rfl, ho', hb'⟩
          case measure => simp [intOf]; omega
        · obtain rfl : k = xs.length := by omega
          go_wp2
          go_ret
          exact gives_own ho (by rw [hf.out]; rfl) hb
    · have hl' : ((ys.length : Int) != (xs.length : Int)) = true := by simp; omega
      have hf := Lib.hid (move_no3 (a := xs) (b := ys) hl)
      clear hl
      go_enter Try.func13, Try.ntmps13
      go_wp2_with fail
      refine (C1.out _ h1).mono ?_
      rintro e w1 ⟨rfl, rfl⟩
      have hb := Below.refl w.heap.size w
      go_wp2
      go_ret
      exact gives_nil hf.out hb
  · have hx' : Perm.okB xs = false := by simpa using hx
    have hf := Lib.hid (move_no1 (b := ys) hx')
    rw [hx'] at C1
    clear hx hx'
    go_enter Try.func13, Try.ntmps13
    go_wp2_with fail
    refine (C1.out _ h1).mono ?_
    rintro e w1 ⟨rfl, rfl⟩
    have hb := Below.refl w.heap.size w
    go_wp2
    go_ret
    exact gives_nil hf.out hb

theorem inv_any (w : World) (a1 : Option Addr) (n1 c1 : Nat) (xs : List Int) (h1 : NumsAt .i64 w a1 xs) (hn1 : n1 = xs.length) (b1 : n1 ≤ 9223372036854775807) :
    Calls Try.prog 16 #[.slice a1 n1 c1] w (GivesInts (Perm.inv xs) w) := by
  subst hn1
  have C1 := Lib.hid (fun w' h => check_any w' a1 xs.length c1 xs h rfl b1)
  by_cases hx : Perm.okB xs = true
  · have oX := Lib.hid ((Perm.okB_iff xs).1 hx)
    rw [hx] at C1
    clear hx
    have h8 : xs.length ≤ 8 := oX.out.small
    have hi := Lib.hid (idS_yes h8)
    have hm : Hid (Perm.move xs (Perm.idl xs.length) = Perm.inv xs) := by
      show _ = _
      rw [Perm.move_of oX.out (by rw [Perm.idl_length]), Perm.inv_is oX.out]
      refine Perm.ext (by rw [Perm.moveL_length, Perm.invL_length]) fun i hi => ?_
      rw [Perm.moveL_length] at hi
      have := Perm.inv_of oX.out i hi
      rw [Perm.moveL_getD _ _ i hi, Perm.invL_getD _ i hi, Perm.idl_getD _ _ (by omega)]
      omega
    go_enter Try.func16, Try.ntmps16
    go_wp2_with fail
    refine (C1.out _ h1).mono ?_
    rintro e w1 ⟨rfl, hb⟩
    go_wp2_with fail
    refine (id_any _ _).mono ?_
    rintro e w2 ⟨a2, c2, he, h2, hb2, _⟩
    rw [hi.out] at he h2
    rw [Perm.idl_length] at he
    subst he
    have hb3 := btrans hb hb2
    clear hb hb2
    go_wp2_with fail
    refine (move_any _ _ _ _ _ _ _ xs (Perm.idl xs.length) (h1.below hb3) h2 rfl (Perm.idl_length _).symm b1 b1).mono ?_
    rintro e w4 ⟨a4, c4, he, h4, hb4, hc4⟩
    rw [hm.out] at he h4 hc4
    subst he
    go_wp2
    go_ret
    exact ⟨a4, c4, rfl, h4, btrans hb3 hb4, hc4⟩
  · have hx' : Perm.okB xs = false := by simpa using hx
    have hf := Lib.hid (inv_no hx')
    rw [hx'] at C1
    clear hx hx'
    go_enter Try.func16, Try.ntmps16
    go_wp2_with fail
    refine (C1.out _ h1).mono ?_
    rintro e w1 ⟨rfl, hb⟩
    go_wp2
    go_ret
    exact gives_nil hf.out hb

theorem rinv_any (w : World) (a1 : Option Addr) (n1 c1 : Nat) (xs : List Int) (h1 : NumsAt .i64 w a1 xs) (hn1 : n1 = xs.length) (b1 : n1 ≤ 9223372036854775807) :
    Calls Try.prog 17 #[.slice a1 n1 c1] w (GivesInts (Perm.inv xs) w) := by
  subst hn1
  have C1 := Lib.hid (fun w' h => rcheck_any w' a1 xs.length c1 xs h rfl b1)
  by_cases hx : Perm.okB xs = true
  · have oX := Lib.hid ((Perm.okB_iff xs).1 hx)
    rw [hx] at C1
    clear hx
    have h8 : xs.length ≤ 8 := oX.out.small
    have hf := Lib.hid (Perm.inv_is oX.out)
    go_enter Try.func17, Try.ntmps17
    go_wp2_with fail
    refine (C1.out _ h1).mono ?_
    rintro e w1 ⟨rfl, rfl⟩
    go_wp2
    go_loopw [3, 4] (fun v i wr => ∃ (k : Nat) (a : Option Addr) (cap : Nat), k ≤ xs.length ∧ i = .int .i64 k ∧ v = .slice a k cap ∧ OwnN .i64 wr w.heap.size 3 a k cap (invP xs k) ∧ Below w.heap.size w wr) (fun _ i _ => xs.length - (intOf i).toNat)
    case atStart => exact ⟨0, none, 0, Nat.zero_le _, rfl, rfl, OwnN.nil _ _ _ _, Below.refl _ _⟩
    case round =>
      obtain ⟨k, a, cap, hk, rfl, rfl, ho, hb⟩ := hrel
      have hz := hb.size
      by_cases hlt : k < xs.length
      · obtain ⟨y, hy⟩ : ∃ y, y = Perm.place xs k := ⟨_, rfl⟩
        have C := fun w h => rplace_any w a1 xs.length c1 xs k h rfl b1
        rw [← hy] at C
        have CC := Lib.hid C
        have HJ := Lib.hid hy
        clear C hy
        go_wp2_with fail
        refine (CC.out _ (h1.below hb)).mono ?_
        rintro e w9 ⟨rfl, rfl⟩
        go_wp2_with (at_builtin; refine wp_app1 rfl _ _ 22 3 .i64 8 rfl Try.underlying22 Try.infoInt w.heap.size a k cap _ rfl (ho.alloc _) wr.heap.size 1 y rfl (new_cell1 _ _ _) (by omega) (by omega) (by simp; omega) ?_)
        intro a' cap' w' ho' hg
        have hb' := bgrown (balloc hb _) hg ho.block
        have hs := Lib.hid (invP_snoc xs k HJ.out)
        rw [hs.out] at ho'
        clear hg ho
        go_wp2
        go_roundw
        case rel => exact ⟨k + 1, a', cap', by omega, by go_num, rfl, ho', hb'⟩
        case measure => simp [intOf]; omega
      · obtain rfl : k = xs.length := by omega
        go_wp2
        go_ret
        exact gives_own ho (by rw [hf.out]; rfl) hb
  · have hx' : Perm.okB xs = false := by simpa using hx
    have hf := Lib.hid (inv_no hx')
    rw [hx'] at C1
    clear hx hx'
    go_enter Try.func17, Try.ntmps17
    go_wp2_with fail
    refine (C1.out _ h1).mono ?_
    rintro e w1 ⟨rfl, rfl⟩
    go_wp2
    go_ret
    exact gives_nil hf.out (Below.refl _ _)
end Go.Proofs.Ytdjneckgckagdaa

