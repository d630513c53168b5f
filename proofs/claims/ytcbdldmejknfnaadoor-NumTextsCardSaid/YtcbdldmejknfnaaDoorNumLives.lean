/- Ranks and the first example, as chapter 01 walks them. No conditions. -/
import Derived.Test.YtcbdldmejknfnaaDoorLib
import Derived.Test.YtcbdldmejknfnaaDoorNumPlain
namespace Go.Proofs.YtcbdldmejknfnaaDoor
open Go.RowKit
theorem same_any (w : World) (a1 a2 : Option Addr) (n1 c1 n2 c2 : Nat) (xs ys : List Int) (h1 : IntsAt w a1 xs) (h2 : IntsAt w a2 ys)
    (hn1 : n1 = xs.length) (hn2 : n2 = ys.length) (b1 : n1 ≤ 9223372036854775807) (b2 : n2 ≤ 9223372036854775807) :
    Calls Tryd.prog 11 #[.slice a1 n1 c1, .slice a2 n2 c2] w fun e w' => e = .returned (.bool (decide (xs = ys))) ∧ Quiet w w' := by
  subst hn1 hn2
  by_cases hl : xs.length = ys.length
  · have hl' : ((xs.length : Int) != (ys.length : Int)) = false := by simp [hl]
    have hl2 := Lib.hid hl; clear hl
    go_enter Tryd.func11, Tryd.ntmps11
    go_wp2
    go_loopw [5] (fun i wr => ∃ k n : Nat, k ≤ xs.length ∧ i = .int .i64 k ∧ wr = w.drewN n ∧ Hid (∀ j, j < k → xs.getD j 0 = ys.getD j 0)) (fun i _ => xs.length - (intOf i).toNat)
    case atStart => exact ⟨0, 0, Nat.zero_le _, rfl, rfl, fun j hj => by omega⟩
    case round =>
      obtain ⟨k, n, hk, rfl, rfl, hall⟩ := hrel
      by_cases hlt : k < xs.length
      · obtain ⟨b, off, x, rfl, c1, hx⟩ := h1.at k hlt
        have hlt2 : k < ys.length := by have := hl2.out; omega
        obtain ⟨b', off', y, rfl, c2, hy⟩ := h2.at k hlt2
        go_wp2
        go_quiet (fail)
        go_wp2
        · have hd : (x != y) = true := by assumption
          go_ret
          refine ⟨?_, Quiet.two _ _ _⟩
          have hx : ¬ xs = ys := by
            intro h
            subst h
            rw [hx.out, hy.out] at hd
            simp at hd
          exact ret_bool (decide_eq_false hx).symm
        · have hd : (x != y) = false := by assumption
          go_roundw
          case rel =>
            refine ⟨k + 1, n + nq, by omega, by go_num, rfl, fun j hj => ?_⟩
            by_cases hjk : j = k
            · subst hjk
              rw [← hx.out, ← hy.out]
              simpa using hd
            · exact hall.out j (by omega)
          case measure => simp [intOf]; omega
      · go_wp2
        go_ret
        refine ⟨?_, Quiet.one _ _⟩
        have hx : xs = ys := by
          apply List.ext_getElem hl2.out
          intro i hi1 hi2
          have := hall.out i (by omega)
          rw [List.getD_eq_getElem?_getD, List.getElem?_eq_getElem hi1, List.getD_eq_getElem?_getD, List.getElem?_eq_getElem hi2] at this
          simpa using this
        exact ret_bool (decide_eq_true hx).symm
  · have hl' : ((xs.length : Int) != (ys.length : Int)) = true := by simp; omega
    have hx : ¬ xs = ys := fun h => hl (by rw [h])
    have hx2 := Lib.hid hx
    clear hl hx
    go_enter Tryd.func11, Tryd.ntmps11
    go_wp2
    go_ret
    exact ⟨by simp [hx2.out], Quiet.refl _⟩
theorem ret_rank {ds bs : List Int} {n : Int} {b : Bool} (h : Num.rank ds bs = (n, b)) : Ending.returned (.tuple #[.int .i64 n, .bool b]) = .returned (.tuple #[.int .i64 (Num.rank ds bs).1, .bool (Num.rank ds bs).2]) := by rw [h]
theorem fit_up {ds bs : List Int} {k : Nat} (h : ∀ j, j < k → 1 ≤ bs.getD j 0 ∧ 0 ≤ ds.getD j 0 ∧ ds.getD j 0 < bs.getD j 0) {x y : Int} (hx : y = ds.getD k 0) (hy : x = bs.getD k 0) (h1 : 1 ≤ x) (h2 : 0 ≤ y) (h3 : y < x) :
    ∀ j, j < k + 1 → 1 ≤ bs.getD j 0 ∧ 0 ≤ ds.getD j 0 ∧ ds.getD j 0 < bs.getD j 0 := by
  intro j hj
  by_cases hjk : j = k
  · subst hjk; rw [← hx, ← hy]; exact ⟨h1, h2, h3⟩
  · exact h j (by omega)
theorem rv_ok {ds bs : List Int} {n y x : Int} {k : Nat} (hn : n = Num.rv ds bs k) (hy : y = ds.getD k 0) (hx : x = bs.getD k 0) (h1 : 1 ≤ x) (_h0 : 0 ≤ n) (hle : n ≤ (1048576 - y) / x) :
    n * x + y = Num.rv ds bs (k + 1) ∧ n * x + y ≤ 1048576 := by
  subst hn hy hx
  refine ⟨rfl, ?_⟩
  have := Int.mul_le_of_le_ediv (show 0 < bs.getD k 0 by omega) hle
  omega
theorem rv_big {ds bs : List Int} {n y x : Int} {k : Nat} (hn : n = Num.rv ds bs k) (hy : y = ds.getD k 0) (hx : x = bs.getD k 0) (h1 : 1 ≤ x) (h0 : 0 ≤ n) (hle : 1048576 < y ∨ (1048576 - y) / x < n) (hyx : 0 ≤ y) :
    1048576 < Num.rv ds bs (k + 1) := by
  subst hn hy hx
  simp only [Num.rv]
  rcases hle with h | h
  · have := Int.mul_nonneg h0 (show 0 ≤ bs.getD k 0 by omega)
    omega
  · have := Int.lt_mul_of_ediv_lt (show 0 < bs.getD k 0 by omega) h
    omega
theorem rank_any (w : World) (a1 a2 : Option Addr) (n1 c1 n2 c2 : Nat) (ds bs : List Int) (h1 : IntsAt w a1 ds) (h2 : IntsAt w a2 bs)
    (hn1 : n1 = ds.length) (hn2 : n2 = bs.length) (b1 : n1 ≤ 9223372036854775807) (b2 : n2 ≤ 9223372036854775807) :
    Calls Tryd.prog 9 #[.slice a1 n1 c1, .slice a2 n2 c2] w fun e w' => e = .returned (.tuple #[.int .i64 (Num.rank ds bs).1, .bool (Num.rank ds bs).2]) ∧ Quiet w w' := by
  subst hn1 hn2
  by_cases hl : ds.length = bs.length
  · have hl' : ((ds.length : Int) != (bs.length : Int)) = false := by simp [hl]
    have hl2 := Lib.hid hl; clear hl
    go_enter Tryd.func9, Tryd.ntmps9
    go_wp2
    go_loopw [19] (fun i wr => ∃ k n : Nat, k ≤ bs.length ∧ i = .int .i64 k ∧ wr = w.drewN n ∧ Hid (∀ j, j < k → 1 ≤ bs.getD j 0 ∧ 0 ≤ ds.getD j 0 ∧ ds.getD j 0 < bs.getD j 0)) (fun i _ => bs.length - (intOf i).toNat)
    case atStart => exact ⟨0, 0, Nat.zero_le _, rfl, rfl, fun j hj => by omega⟩
    case round =>
      obtain ⟨k, n, hk, rfl, rfl, hall⟩ := hrel
      by_cases hlt : k < bs.length
      · have hlt2 : k < ds.length := by have := hl2.out; omega
        obtain ⟨b, off, y, rfl, c1, hy⟩ := h1.at k hlt2
        obtain ⟨b', off', x, rfl, c2, hx⟩ := h2.at k hlt
        go_wp2
        all_goals first
          | (go_ret2; exact ⟨ret_rank (Num.rank_no_fit k hlt (by have := hx.out; have := hy.out; omega)), Quiet.one _ _⟩)
          | (go_roundw
             case rel => exact ⟨k + 1, n, by omega, by go_num, rfl, fit_up hall.out hy.out hx.out (by omega) (by omega) (by omega)⟩
             case measure => simp [intOf]; omega)
      · have hf : Hid (Num.Fit ds bs) := fun i hi => hall.out i (by omega)
        clear hall
        go_wp2
        go_loopw [8, 44] (fun v i wr => ∃ k m : Nat, ∃ n : Int, k ≤ bs.length ∧ i = .int .i64 k ∧ wr = w.drewN m ∧ v = .int .i64 n ∧ 0 ≤ n ∧ n ≤ 1048576 ∧ Hid (n = Num.rv ds bs k)) (fun _ i _ => bs.length - (intOf i).toNat)
        case atStart => exact ⟨0, _, 0, Nat.zero_le _, rfl, rfl, rfl, by omega, by omega, rfl⟩
        case round =>
          obtain ⟨k, m, n, hk, rfl, rfl, rfl, hn0, hn1, hn⟩ := hrel
          by_cases hlt : k < bs.length
          · have hlt2 : k < ds.length := by have := hl2.out; omega
            obtain ⟨b, off, y, rfl, c1, hy⟩ := h1.at k hlt2
            obtain ⟨b', off', x, rfl, c2, hx⟩ := h2.at k hlt
            have hx1 : 1 ≤ x := by rw [hx.out]; exact (hf.out k hlt).1
            have hy1 : 0 ≤ y := by rw [hy.out]; exact (hf.out k hlt).2.1
            by_cases hbig : 1048576 < y
            · go_wp2
              go_ret2
              exact ⟨ret_rank (Num.rank_no_big hf.out (k + 1) (by omega) (rv_big hn.out hy.out hx.out hx1 hn0 (.inl hbig) hy1)), Quiet.one _ _⟩
            · by_cases hle : n ≤ (1048576 - y) / x
              · have R := rv_ok hn.out hy.out hx.out hx1 hn0 hle
                have R1 : Hid _ := R.1
                have R2 := R.2
                have R3 : 0 ≤ n * x := Int.mul_nonneg hn0 (by omega)
                clear R
                go_wp2
                go_roundw
                case rel => exact ⟨k + 1, m, _, by omega, by go_num, rfl, rfl, by omega, by omega, R1⟩
                case measure => simp [intOf]; omega
              · have hle2 : (1048576 - y) / x < n := by omega
                clear hle
                go_wp2
                go_ret2
                exact ⟨ret_rank (Num.rank_no_big hf.out (k + 1) (by omega) (rv_big hn.out hy.out hx.out hx1 hn0 (.inr hle2) hy1)), Quiet.one _ _⟩
          · obtain rfl : k = bs.length := by omega
            go_wp2
            go_ret2
            exact ⟨by rw [Num.rank_yes hl2.out hf.out (by rw [← hn.out]; exact hn1)]; rw [← hn.out]; rfl, Quiet.one _ _⟩
  · have hl' : ((ds.length : Int) != (bs.length : Int)) = true := by simp; omega
    have hx2 := Lib.hid hl
    clear hl
    go_enter Tryd.func9, Tryd.ntmps9
    go_wp2
    go_ret2
    exact ⟨ret_rank (Num.rank_no_len hx2.out), Quiet.refl _⟩
theorem Tryd.info3 : (Tryd.prog.info? 3).map (fun i => (i.zero, i.size, i.bytes)) = some (some (.int .i64 0), 1, 8) := by kernel_rfl
/-- the numbers of which the last d are taken off already -/
def part (n : Int) (bs : List Int) (d : Nat) : List Int := (List.range bs.length).map fun i => if bs.length ≤ i + d then Num.qd n bs (bs.length - 1 - i) % bs.getD i 0 else 0
theorem part_zero (n : Int) (bs : List Int) : part n bs 0 = List.replicate bs.length 0 := by
  apply List.ext_getElem
  · simp [part]
  · intro i h1 h2
    simp [part] at h1
    simp [part]; omega
theorem part_all (n : Int) (bs : List Int) : part n bs bs.length = Num.digits n bs := by
  apply List.ext_getElem
  · simp [part, Num.digits]
  · intro i h1 h2
    simp [part, Num.digits]
theorem part_step (n : Int) (bs : List Int) (d : Nat) (hd : d < bs.length) : (part n bs d).set (bs.length - 1 - d) (Num.qd n bs d % bs.getD (bs.length - 1 - d) 0) = part n bs (d + 1) := by
  apply List.ext_getElem
  · simp [part]
  · intro i h1 h2
    simp [part] at h1 h2
    rw [List.getElem_set]
    split
    · rename_i e
      simp only [part, List.getElem_map, List.getElem_range]
      rw [if_pos (by omega), ← e, show bs.length - 1 - (bs.length - 1 - d) = d by omega]
    · simp only [part, List.getElem_map, List.getElem_range]
      by_cases h : bs.length ≤ i + d
      · rw [if_pos h, if_pos (by omega)]
      · rw [if_neg h, if_neg (by omega)]
theorem part_length (n : Int) (bs : List Int) (d : Nat) : (part n bs d).length = bs.length := by simp [part]
/-- what a call of Unrank leaves -/
def UnrankPost (n : Int) (bs : List Int) (w : World) (e : Ending) (w' : World) : Prop :=
  ∃ a cap, e = .returned (.tuple #[.slice a (Num.unrank n bs).1.length cap, .bool (Num.unrank n bs).2]) ∧ IntsAt w' a (Num.unrank n bs).1 ∧ Below w.heap.size w w'
theorem unrank_post_no {n : Int} {bs : List Int} (h : Num.unrank n bs = ([], false)) {w w' : World} (hb : Below w.heap.size w w') :
    UnrankPost n bs w (.returned (.tuple #[.slice none 0 0, .bool false])) w' := by
  refine ⟨none, 0, ?_, ?_, hb⟩
  · rw [h]; rfl
  · rw [h]; exact IntsAt.nil _ _
def inB (xs : List Int) : Bool := decide (∀ i, i < xs.length → -1048576 ≤ xs.getD i 0 ∧ xs.getD i 0 ≤ 1048576)
theorem within_any (w : World) (a1 : Option Addr) (n1 c1 : Nat) (xs : List Int) (h1 : IntsAt w a1 xs) (hn1 : n1 = xs.length) (b1 : n1 ≤ 9223372036854775807) :
    Calls Tryd.prog 15 #[.slice a1 n1 c1] w fun e w' => e = .returned (.bool (inB xs)) ∧ w = w' := by
  subst hn1
  go_enter Tryd.func15, Tryd.ntmps15
  go_wp2
  go_loop [7] (fun i => ∃ k : Nat, k ≤ xs.length ∧ i = .int .i64 k ∧ Hid (∀ j, j < k → -1048576 ≤ xs.getD j 0 ∧ xs.getD j 0 ≤ 1048576)) (fun i => xs.length - (intOf i).toNat)
  case atStart => exact ⟨0, Nat.zero_le _, rfl, fun j hj => by omega⟩
  case round =>
    obtain ⟨k, hk, rfl, hall⟩ := hrel
    by_cases hlt : k < xs.length
    · obtain ⟨b, off, x, rfl, c1, hx⟩ := h1.at k hlt
      go_wp2
      all_goals first
        | (go_ret; exact ⟨ret_bool (decide_eq_false (fun h => by have := h k hlt; have := hx.out; omega)).symm, rfl⟩)
        | (go_round
           case rel =>
             refine ⟨k + 1, by omega, by go_num, fun j hj => ?_⟩
             by_cases hjk : j = k
             · subst hjk; rw [← hx.out]; omega
             · exact hall.out j (by omega)
           case measure => simp [intOf]; omega)
    · go_wp2
      go_ret
      exact ⟨ret_bool (decide_eq_true (fun i hi => hall.out i (by omega))).symm, rfl⟩
theorem unrank_any (w : World) (a2 : Option Addr) (n2 c2 : Nat) (n : Int) (bs : List Int) (h2 : IntsAt w a2 bs) (hn2 : n2 = bs.length) (b2 : n2 * 8 ≤ 140737488351232) :
    Calls Tryd.prog 10 #[.int .i64 n, .slice a2 n2 c2] w (UnrankPost n bs w) := by
  subst hn2
  by_cases hn : n < 0 ∨ 1048576 < n
  · rcases hn with hn | hn
    · go_enter Tryd.func10, Tryd.ntmps10
      go_wp2
      go_ret2
      exact unrank_post_no (Num.unrank_no (.inl hn)) (Below.refl _ _)
    · have hn0 : ¬ n < 0 := by omega
      have hin : inB [n] = false := decide_eq_false (fun h => by have := h 0 (by simp); simp at this; omega)
      go_enter Tryd.func10, Tryd.ntmps10
      go_wp2_with (go_at_call 15; refine (within_any _ _ _ _ [n] (ints_new1 rfl n) rfl (by simp)).mono ?_; rintro e w' ⟨rfl, rfl⟩)
      go_ret2
      exact unrank_post_no (Num.unrank_no (.inr hn)) ((Below.refl _ _).alloc (Nat.le_refl _) _)
  · have hn0 : ¬ n < 0 := by omega
    have hn1 : ¬ 1048576 < n := by omega
    clear hn
    obtain ⟨i0, hi, hz0, hz1, hz2⟩ := info_parts Tryd.info3
    go_enter Tryd.func10, Tryd.ntmps10
    have hin : inB [n] = true := decide_eq_true (fun i hi => by match i, hi with | 0, _ => simp; omega)
    go_wp2_with (first | (go_at_call 15; refine (within_any _ _ _ _ [n] (ints_new1 rfl n) rfl (by simp)).mono ?_; rintro e w' ⟨rfl, rfl⟩) | (at_make; refine wpList_make_full _ rfl _ _ 28 rfl (w.heap.size + 1) 3 i0 (.int .i64 0) 1 Tryd.underlying28 hi hz0 hz1 .i64 .i64 bs.length bs.length bs.length rfl rfl rfl rfl (by rw [hz2]; omega) (by unfold maxLen; omega) (by simp) ?_))
    intro w1 hown hgrow
    have hb1 : Below w.heap.size w w1 := ((Below.refl _ _).alloc (Nat.le_refl _) _).grown hgrow (by simp) (by simp)
    have ho : w1.ownsRow (w.heap.size + 1) 3 1 (.slice (some ⟨w.heap.size + 1, 0, none⟩) bs.length bs.length) bs.length ((part n bs 0).map (Value.int .i64)) := by
      rw [part_zero, List.map_replicate]
      simpa [toList_madeCells_one] using hown
    clear hown hgrow
    have hlen := Lib.hid (show bs.length ≤ 17592186044000 by omega)
    go_wp2
    go_loopw [0, 7] (fun v i wr => ∃ d : Nat, ∃ q : Int, d ≤ bs.length ∧ i = .int .i64 ((bs.length : Int) - 1 - (d : Int)) ∧ v = .int .i64 q ∧ 0 ≤ q ∧ q ≤ 1048576 ∧ Hid (q = Num.qd n bs d) ∧ Hid (∀ k, k < d → 1 ≤ bs.getD (bs.length - 1 - k) 0) ∧
        wr.ownsRow (w.heap.size + 1) 3 1 (.slice (some ⟨w.heap.size + 1, 0, none⟩) bs.length bs.length) bs.length ((part n bs d).map (Value.int .i64)) ∧ Below w.heap.size w wr) (fun _ i _ => (intOf i + 1).toNat)
    case atStart => exact ⟨0, n, Nat.zero_le _, by simp, rfl, by omega, by omega, rfl, fun k hk => by omega, ho, hb1⟩
    case round =>
      obtain ⟨d, q, hd, rfl, rfl, hq0, hq1, hq, hall, ho, hb⟩ := hrel
      by_cases hlt : d < bs.length
      · obtain ⟨b, off, x, rfl, hbb, c2, hx⟩ := h2.atb hb (bs.length - 1 - d) (by omega)
        have e1 : ((bs.length : Int) - 1 - (d : Int)).toNat = bs.length - 1 - d := by omega
        obtain ⟨y, e2, _⟩ := ownsInt_at ho (bs.length - 1 - d) (by rw [part_length]; omega)
        have e3 := ho.frozenAt (bs.length - 1 - d)
        by_cases hx1 : x < 1
        · go_wp2
          go_ret2
          exact unrank_post_no (Num.unrank_no_base (bs.length - 1 - d) (by omega) (by rw [← hx.out]; exact hx1)) hb
        · have ho2 := ownsInt_set ho (bs.length - 1 - d) (q % x)
          have hs : Hid ((part n bs d).set (bs.length - 1 - d) (q % x) = part n bs (d + 1)) := by
            rw [hq.out, hx.out]; exact part_step n bs d hlt
          have hq3 : 0 ≤ q / x := Int.ediv_nonneg hq0 (by omega)
          have hq4 : q / x ≤ q := Int.ediv_le_self _ hq0
          rw [hs.out] at ho2
          have hb2 := hb.setCell (p := ⟨w.heap.size + 1, bs.length - 1 - d, none⟩) (by simp) (.int .i64 (q % x))
          go_wp2
          go_roundw
          case rel =>
            refine ⟨d + 1, _, by omega, by go_num, rfl, by omega, by omega, ?_, ?_, ho2, hb2⟩
            · show _ = _; rw [hq.out, hx.out]; rfl
            · intro k hk
              by_cases hkd : k = d
              · subst hkd; rw [← hx.out]; omega
              · exact hall.out k (by omega)
          case measure => simp [intOf]; omega
      · obtain rfl : d = bs.length := by omega
        have hp : Num.Pos bs := fun i hi => by
          have := hall.out (bs.length - 1 - i) (by omega)
          rwa [show bs.length - 1 - (bs.length - 1 - i) = i by omega] at this
        have hp := Lib.hid hp
        by_cases hq2 : 0 < q
        · go_wp2
          go_ret2
          exact unrank_post_no (Num.unrank_no_left (by rw [← hq.out]; exact hq2)) hb
        · go_wp2
          go_ret2
          have hu : Num.unrank n bs = (Num.digits n bs, true) := Num.unrank_yes (by omega) (by omega) hp.out (by rw [← hq.out]; omega)
          rw [part_all] at ho
          refine ⟨some ⟨w.heap.size + 1, 0, none⟩, bs.length, ?_, ?_, hb⟩
          · rw [hu]; simp only [Num.digits_length]; rfl
          · rw [hu]; exact IntsAt.of_owns ho
/-- what a number leaves by another one -/
def modS (n y : Int) : Int := if y = 0 then 0 else n % y
theorem tmod_facts (n y : Int) (hy : y ≠ 0) : (0 ≤ n.tmod y → n.tmod y = n % y) ∧ (n.tmod y < 0 → y < 0 → n.tmod y - y = n % y) ∧ (n.tmod y < 0 → 0 < y → n.tmod y + y = n % y) ∧ (y < 0 → y < n.tmod y ∧ n.tmod y < -y) ∧ (0 < y → -y < n.tmod y ∧ n.tmod y < y) := by
  have e := Int.tmod_eq_emod (a := n) (b := y)
  have h1 := Int.emod_nonneg n hy
  have h2 := Int.emod_lt n hy
  by_cases h : 0 ≤ n ∨ y ∣ n
  · rw [if_pos h] at e
    omega
  · rw [if_neg h] at e
    have h4 : n % y ≠ 0 := fun h0 => h (.inr (Int.dvd_of_emod_eq_zero h0))
    omega
theorem modS_of (n y : Int) (hy : y ≠ 0) : modS n y = n % y := by unfold modS; rw [if_neg hy]
theorem mod_any (w : World) (n y : Int) (hn : -9223372036854775808 ≤ n ∧ n ≤ 9223372036854775807) (hy : -9223372036854775808 ≤ y ∧ y ≤ 9223372036854775807) :
    Calls Tryd.prog 12 #[.int .i64 n, .int .i64 y] w fun e w' => e = .returned (.int .i64 (modS n y)) ∧ w = w' := by
  by_cases h0 : y = 0
  · subst h0
    go_enter Tryd.func12, Tryd.ntmps12
    go_wp2
    go_ret
    exact ⟨rfl, rfl⟩
  · have he := Lib.hid (modS_of n y h0)
    have hf := Lib.hid (tmod_facts n y h0)
    have hb : (y == 0) = false := by simpa using h0
    have f4 := hf.out.2.2.2.1
    have f5 := hf.out.2.2.2.2
    by_cases hr : 0 ≤ n.tmod y
    · go_enter Tryd.func12, Tryd.ntmps12
      go_wp2
      go_ret
      exact ⟨ret_int ((hf.out.1 hr).trans he.out.symm), rfl⟩
    · rcases Int.lt_or_gt_of_ne h0 with hs | hs
      · have q1 := (f4 hs).1
        have q2 := (f4 hs).2
        clear f4 f5
        go_enter Tryd.func12, Tryd.ntmps12
        go_wp2
        go_ret
        exact ⟨ret_int ((hf.out.2.1 (by omega) hs).trans he.out.symm), rfl⟩
      · have q1 := (f5 hs).1
        have q2 := (f5 hs).2
        clear f4 f5
        go_enter Tryd.func12, Tryd.ntmps12
        go_wp2
        go_ret
        exact ⟨ret_int ((hf.out.2.2.1 (by omega) hs).trans he.out.symm), rfl⟩
theorem rank_ex : Num.rank [1, 2] [3, 4] = (6, true) := by
  rw [Num.rank_yes (ds := [1, 2]) (bs := [3, 4]) rfl (fun i hi => by match i, hi with | 0, _ => simp | 1, _ => simp) (by decide)]
  rfl
theorem unrank_ex : Num.unrank 6 [3, 4] = ([1, 2], true) := by
  rw [Num.unrank_yes (n := 6) (bs := [3, 4]) (by omega) (by omega) (fun i hi => by match i, hi with | 0, _ => simp | 1, _ => simp) (by decide)]
  rfl
theorem rank_lives (w : World) (a1 a2 : Option Addr) (c1 c2 : Nat) (h1 : IntsAt w a1 [1, 2]) (h2 : IntsAt w a2 [3, 4]) :
    Calls Tryd.prog 9 #[.slice a1 2 c1, .slice a2 2 c2] w fun e w' => e = .returned (.tuple #[.int .i64 6, .bool true]) ∧ Quiet w w' := by
  have h := rank_any w a1 a2 2 c1 2 c2 [1, 2] [3, 4] h1 h2 rfl rfl (by omega) (by omega)
  rw [rank_ex] at h
  exact h
def UnrankLives (w : World) (e : Ending) (w' : World) : Prop := ∃ a cap, e = .returned (.tuple #[.slice a 2 cap, .bool true]) ∧ IntsAt w' a [1, 2] ∧ Below w.heap.size w w'
theorem unrank_lives (w : World) (a2 : Option Addr) (c2 : Nat) (h2 : IntsAt w a2 [3, 4]) :
    Calls Tryd.prog 10 #[.int .i64 6, .slice a2 2 c2] w (UnrankLives w) := by
  refine (unrank_any w a2 2 c2 6 [3, 4] h2 rfl (by omega)).mono fun e w' ⟨a, cap, he, hi, hb⟩ => ?_
  rw [unrank_ex] at he hi
  exact ⟨a, cap, he, hi, hb⟩
theorem same_lives (w : World) (a1 a2 : Option Addr) (c1 c2 : Nat) (h1 : IntsAt w a1 [1, 2]) (h2 : IntsAt w a2 [1, 2]) :
    Calls Tryd.prog 11 #[.slice a1 2 c1, .slice a2 2 c2] w fun e w' => e = .returned (.bool true) ∧ Quiet w w' := by
  have h := same_any w a1 a2 2 c1 2 c2 [1, 2] [1, 2] h1 h2 rfl rfl (by omega) (by omega)
  rw [decide_eq_true rfl] at h
  exact h
theorem mod_l1 (w : World) : Calls Tryd.prog 12 #[.int .i64 (-7), .int .i64 3] w fun e w' => e = .returned (.int .i64 2) ∧ w = w' :=
  mod_any w (-7) 3 (by omega) (by omega)
theorem mod_l2 (w : World) : Calls Tryd.prog 12 #[.int .i64 (-7), .int .i64 (-3)] w fun e w' => e = .returned (.int .i64 2) ∧ w = w' :=
  mod_any w (-7) (-3) (by omega) (by omega)
theorem lives_true (w : World) : Calls Tryd.prog 4 #[] w fun e w' => e = .returned (.bool true) ∧ Below w.heap.size w w' := by
  go_enter Tryd.func4, Tryd.ntmps4
  go_wp2_with (go_at_call 9; refine (rank_lives _ _ _ _ _ ((ints_new2 rfl _ _).alloc _) (ints_new2 (by simp) _ _)).mono ?_; rintro e w' ⟨rfl, n, rfl⟩)
  refine (unrank_lives _ _ _ (ints_new2 (by simp) _ _)).mono ?_
  rintro e w1 ⟨a, cap, rfl, hi, hb⟩
  have hb0 : Below w.heap.size w w1 := Below.trans ((bdrewN (((Below.refl _ _).alloc (Nat.le_refl _) _).alloc (by simp) _) n).alloc (by simp; omega) _) (hb.mono (by simp; omega))
  have hz := hb0.size
  clear hb
  go_wp2_with (first
    | (go_at_call 11; refine (same_lives _ _ _ _ _ (hi.alloc _) (ints_new2 rfl _ _)).mono ?_; rintro e w' ⟨rfl, m, rfl⟩)
    | (go_at_call 12; first | ((with_reducible refine (mod_l1 _).mono ?_); rintro e w' ⟨rfl, rfl⟩) | ((with_reducible refine (mod_l2 _).mono ?_); rintro e w' ⟨rfl, rfl⟩)))
  go_ret
  exact ⟨rfl, bdrewN (hb0.alloc hz _) _⟩
def fB (x : Int) : Prop := -1048576 ≤ x ∧ x ≤ 1048576
instance (x : Int) : Decidable (fB x) := inferInstanceAs (Decidable (_ ∧ _))
theorem inB_one {x : Int} (h : fB x) : inB [x] = true := decide_eq_true (fun i hi => by match i, hi with | 0, _ => exact h)
theorem inB_one_no {x : Int} (h : ¬ fB x) : inB [x] = false := decide_eq_false (fun g => h (g 0 (by simp)))
theorem rwithin_any (w : World) (n : Int) : Calls Tryd.prog 16 #[.int .i64 n] w fun e w' => e = .returned (.bool (decide (fB n))) ∧ w = w' := by
  by_cases h1 : -1048576 ≤ n
  · by_cases h2 : n ≤ 1048576
    · go_enter Tryd.func16, Tryd.ntmps16
      go_wp2
      go_ret
      exact ⟨ret_bool (decide_eq_true (show fB n from ⟨h1, h2⟩)).symm, rfl⟩
    · have h3 : decide (n ≤ 1048576) = false := by simpa using h2
      go_enter Tryd.func16, Tryd.ntmps16
      go_wp2
      go_ret
      exact ⟨ret_bool (decide_eq_false (fun h : fB n => by have := h.2; omega)).symm, rfl⟩
  · have h3 : decide (-1048576 ≤ n) = false := by simpa using h1
    go_enter Tryd.func16, Tryd.ntmps16
    go_wp2
    go_ret
    exact ⟨ret_bool (decide_eq_false (fun h : fB n => by have := h.1; omega)).symm, rfl⟩
end Go.Proofs.YtcbdldmejknfnaaDoor
