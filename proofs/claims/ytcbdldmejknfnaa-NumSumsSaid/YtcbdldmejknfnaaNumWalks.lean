/- The walks of layer num's functions over lists, and of the document's: what each call answers. Conditions: lengths within int; for those that make a list, eight bytes a number fit. -/
import Derived.Test.YtcbdldmejknfnaaLib
import Derived.Test.YtcbdldmejknfnaaNumPlain
namespace Go.Proofs.Ytcbdldmejknfnaa
open Go.RowKit

theorem same_any (w : World) (a1 a2 : Option Addr) (n1 c1 n2 c2 : Nat) (xs ys : List Int) (h1 : IntsAt w a1 xs) (h2 : IntsAt w a2 ys)
    (hn1 : n1 = xs.length) (hn2 : n2 = ys.length) (b1 : n1 ≤ 9223372036854775807) (b2 : n2 ≤ 9223372036854775807) :
    Calls Try.prog 17 #[.slice a1 n1 c1, .slice a2 n2 c2] w fun e w' => e = .returned (.bool (decide (xs = ys))) ∧ Quiet w w' := by
  subst hn1 hn2
  by_cases hl : xs.length = ys.length
  · have hl' : ((xs.length : Int) != (ys.length : Int)) = false := by simp [hl]
    have hl2 := Lib.hid hl; clear hl
    go_enter Try.func17, Try.ntmps17
    go_wp2
    go_loopw [5] (fun i wr => ∃ k n : Nat, k ≤ xs.length ∧ i = .int .i64 k ∧ wr = w.drewN n ∧ Hid (∀ j, j < k → xs.getD j 0 = ys.getD j 0)) (fun i _ => xs.length - (intOf i).toNat)
    case atStart => exact ⟨0, 0, Nat.zero_le _, rfl, rfl, fun j hj => by omega⟩
    case round =>
      obtain ⟨k, n, hk, rfl, rfl, hall⟩ := hrel
      by_cases hlt : k < xs.length
      · obtain ⟨b, off, x, rfl, c1, hx⟩ := h1.at k hlt
        have hlt2 : k < ys.length := by have := hl2.out; omega
        obtain ⟨b', off', y, rfl, c2, hy⟩ := h2.at k hlt2
        go_wp2
        go_quiet (fail)
        go_wp2
        · have hd : (x != y) = true := by assumption
          go_ret
          refine ⟨?_, Quiet.two _ _ _⟩
          have hx : ¬ xs = ys := by
            intro h
            subst h
            rw [hx.out, hy.out] at hd
            simp at hd
          exact ret_bool (decide_eq_false hx).symm
        · have hd : (x != y) = false := by assumption
          go_roundw
          case rel =>
            refine ⟨k + 1, n + nq, by omega, by go_num, rfl, fun j hj => ?_⟩
            by_cases hjk : j = k
            · subst hjk
              rw [← hx.out, ← hy.out]
              simpa using hd
            · exact hall.out j (by omega)
          case measure => simp [intOf]; omega
      · go_wp2
        go_ret
        refine ⟨?_, Quiet.one _ _⟩
        have hx : xs = ys := by
          apply List.ext_getElem hl2.out
          intro i hi1 hi2
          have := hall.out i (by omega)
          rw [List.getD_eq_getElem?_getD, List.getElem?_eq_getElem hi1, List.getD_eq_getElem?_getD, List.getElem?_eq_getElem hi2] at this
          simpa using this
        exact ret_bool (decide_eq_true hx).symm
  · have hl' : ((xs.length : Int) != (ys.length : Int)) = true := by simp; omega
    have hx : ¬ xs = ys := fun h => hl (by rw [h])
    have hx2 := Lib.hid hx
    clear hl hx
    go_enter Try.func17, Try.ntmps17
    go_wp2
    go_ret
    exact ⟨by simp [hx2.out], Quiet.refl _⟩

theorem ret_rank {ds bs : List Int} {n : Int} {b : Bool} (h : Num.rank ds bs = (n, b)) : Ending.returned (.tuple #[.int .i64 n, .bool b]) = .returned (.tuple #[.int .i64 (Num.rank ds bs).1, .bool (Num.rank ds bs).2]) := by rw [h]

theorem fit_up {ds bs : List Int} {k : Nat} (h : ∀ j, j < k → 1 ≤ bs.getD j 0 ∧ 0 ≤ ds.getD j 0 ∧ ds.getD j 0 < bs.getD j 0) {x y : Int} (hx : y = ds.getD k 0) (hy : x = bs.getD k 0) (h1 : 1 ≤ x) (h2 : 0 ≤ y) (h3 : y < x) :
    ∀ j, j < k + 1 → 1 ≤ bs.getD j 0 ∧ 0 ≤ ds.getD j 0 ∧ ds.getD j 0 < bs.getD j 0 := by
  intro j hj
  by_cases hjk : j = k
  · subst hjk; rw [← hx, ← hy]; exact ⟨h1, h2, h3⟩
  · exact h j (by omega)

theorem rv_ok {ds bs : List Int} {n y x : Int} {k : Nat} (hn : n = Num.rv ds bs k) (hy : y = ds.getD k 0) (hx : x = bs.getD k 0) (h1 : 1 ≤ x) (_h0 : 0 ≤ n) (hle : n ≤ (1048576 - y) / x) :
    n * x + y = Num.rv ds bs (k + 1) ∧ n * x + y ≤ 1048576 := by
  subst hn hy hx
  refine ⟨rfl, ?_⟩
  have := Int.mul_le_of_le_ediv (show 0 < bs.getD k 0 by omega) hle
  omega
theorem rv_big {ds bs : List Int} {n y x : Int} {k : Nat} (hn : n = Num.rv ds bs k) (hy : y = ds.getD k 0) (hx : x = bs.getD k 0) (h1 : 1 ≤ x) (h0 : 0 ≤ n) (hle : 1048576 < y ∨ (1048576 - y) / x < n) (hyx : 0 ≤ y) :
    1048576 < Num.rv ds bs (k + 1) := by
  subst hn hy hx
  simp only [Num.rv]
  rcases hle with h | h
  · have := Int.mul_nonneg h0 (show 0 ≤ bs.getD k 0 by omega)
    omega
  · have := Int.lt_mul_of_ediv_lt (show 0 < bs.getD k 0 by omega) h
    omega

theorem rank_any (w : World) (a1 a2 : Option Addr) (n1 c1 n2 c2 : Nat) (ds bs : List Int) (h1 : IntsAt w a1 ds) (h2 : IntsAt w a2 bs)
    (hn1 : n1 = ds.length) (hn2 : n2 = bs.length) (b1 : n1 ≤ 9223372036854775807) (b2 : n2 ≤ 9223372036854775807) :
    Calls Try.prog 13 #[.slice a1 n1 c1, .slice a2 n2 c2] w fun e w' => e = .returned (.tuple #[.int .i64 (Num.rank ds bs).1, .bool (Num.rank ds bs).2]) ∧ Quiet w w' := by
  subst hn1 hn2
  by_cases hl : ds.length = bs.length
  · have hl' : ((ds.length : Int) != (bs.length : Int)) = false := by simp [hl]
    have hl2 := Lib.hid hl; clear hl
    go_enter Try.func13, Try.ntmps13
    go_wp2
    go_loopw [19] (fun i wr => ∃ k n : Nat, k ≤ bs.length ∧ i = .int .i64 k ∧ wr = w.drewN n ∧ Hid (∀ j, j < k → 1 ≤ bs.getD j 0 ∧ 0 ≤ ds.getD j 0 ∧ ds.getD j 0 < bs.getD j 0)) (fun i _ => bs.length - (intOf i).toNat)
    case atStart => exact ⟨0, 0, Nat.zero_le _, rfl, rfl, fun j hj => by omega⟩
    case round =>
      obtain ⟨k, n, hk, rfl, rfl, hall⟩ := hrel
      by_cases hlt : k < bs.length
      · have hlt2 : k < ds.length := by have := hl2.out; omega
        obtain ⟨b, off, y, rfl, c1, hy⟩ := h1.at k hlt2
        obtain ⟨b', off', x, rfl, c2, hx⟩ := h2.at k hlt
        go_wp2
        all_goals first
          | (go_ret2; exact ⟨ret_rank (Num.rank_no_fit k hlt (by have := hx.out; have := hy.out; omega)), Quiet.one _ _⟩)
          | (go_roundw
             case rel => exact ⟨k + 1, n, by omega, by go_num, rfl, fit_up hall.out hy.out hx.out (by omega) (by omega) (by omega)⟩
             case measure => simp [intOf]; omega)
      · have hf : Hid (Num.Fit ds bs) := fun i hi => hall.out i (by omega)
        clear hall
        go_wp2
        go_loopw [8, 44] (fun v i wr => ∃ k m : Nat, ∃ n : Int, k ≤ bs.length ∧ i = .int .i64 k ∧ wr = w.drewN m ∧ v = .int .i64 n ∧ 0 ≤ n ∧ n ≤ 1048576 ∧ Hid (n = Num.rv ds bs k)) (fun _ i _ => bs.length - (intOf i).toNat)
        case atStart => exact ⟨0, _, 0, Nat.zero_le _, rfl, rfl, rfl, by omega, by omega, rfl⟩
        case round =>
          obtain ⟨k, m, n, hk, rfl, rfl, rfl, hn0, hn1, hn⟩ := hrel
          by_cases hlt : k < bs.length
          · have hlt2 : k < ds.length := by have := hl2.out; omega
            obtain ⟨b, off, y, rfl, c1, hy⟩ := h1.at k hlt2
            obtain ⟨b', off', x, rfl, c2, hx⟩ := h2.at k hlt
            have hx1 : 1 ≤ x := by rw [hx.out]; exact (hf.out k hlt).1
            have hy1 : 0 ≤ y := by rw [hy.out]; exact (hf.out k hlt).2.1
            by_cases hbig : 1048576 < y
            · go_wp2
              go_ret2
              exact ⟨ret_rank (Num.rank_no_big hf.out (k + 1) (by omega) (rv_big hn.out hy.out hx.out hx1 hn0 (.inl hbig) hy1)), Quiet.one _ _⟩
            · by_cases hle : n ≤ (1048576 - y) / x
              · have R := rv_ok hn.out hy.out hx.out hx1 hn0 hle
                have R1 : Hid _ := R.1
                have R2 := R.2
                have R3 : 0 ≤ n * x := Int.mul_nonneg hn0 (by omega)
                clear R
                go_wp2
                go_roundw
                case rel => exact ⟨k + 1, m, _, by omega, by go_num, rfl, rfl, by omega, by omega, R1⟩
                case measure => simp [intOf]; omega
              · have hle2 : (1048576 - y) / x < n := by omega
                clear hle
                go_wp2
                go_ret2
                exact ⟨ret_rank (Num.rank_no_big hf.out (k + 1) (by omega) (rv_big hn.out hy.out hx.out hx1 hn0 (.inr hle2) hy1)), Quiet.one _ _⟩
          · obtain rfl : k = bs.length := by omega
            go_wp2
            go_ret2
            exact ⟨by rw [Num.rank_yes hl2.out hf.out (by rw [← hn.out]; exact hn1)]; rw [← hn.out]; rfl, Quiet.one _ _⟩
  · have hl' : ((ds.length : Int) != (bs.length : Int)) = true := by simp; omega
    have hx2 := Lib.hid hl
    clear hl
    go_enter Try.func13, Try.ntmps13
    go_wp2
    go_ret2
    exact ⟨ret_rank (Num.rank_no_len hx2.out), Quiet.refl _⟩

theorem rrank_any (w : World) (a1 a2 : Option Addr) (n1 c1 n2 c2 : Nat) (ds bs : List Int) (h1 : IntsAt w a1 ds) (h2 : IntsAt w a2 bs)
    (hn1 : n1 = ds.length) (hn2 : n2 = bs.length) (b1 : n1 ≤ 9223372036854775807) (b2 : n2 ≤ 9223372036854775807) :
    Calls Try.prog 14 #[.slice a1 n1 c1, .slice a2 n2 c2] w fun e w' => e = .returned (.tuple #[.int .i64 (Num.rank ds bs).1, .bool (Num.rank ds bs).2]) ∧ Quiet w w' := by
  subst hn1 hn2
  by_cases hl : ds.length = bs.length
  · have hl' : ((ds.length : Int) != (bs.length : Int)) = false := by simp [hl]
    have hl2 := Lib.hid hl; clear hl
    go_enter Try.func14, Try.ntmps14
    go_wp2
    go_loopw [6] (fun i wr => ∃ k n : Nat, k ≤ bs.length ∧ i = .int .i64 k ∧ wr = w.drewN n ∧ Hid (∀ j, j < k → 1 ≤ bs.getD j 0 ∧ 0 ≤ ds.getD j 0 ∧ ds.getD j 0 < bs.getD j 0)) (fun i _ => bs.length - (intOf i).toNat)
    case atStart => exact ⟨0, 0, Nat.zero_le _, rfl, rfl, fun j hj => by omega⟩
    case round =>
      obtain ⟨k, n, hk, rfl, rfl, hall⟩ := hrel
      by_cases hlt : k < bs.length
      · have hlt2 : k < ds.length := by have := hl2.out; omega
        obtain ⟨b, off, y, rfl, c1, hy⟩ := h1.at k hlt2
        obtain ⟨b', off', x, rfl, c2, hx⟩ := h2.at k hlt
        by_cases hx1 : x < 1
        · go_wp2
          go_quiet (fail)
          go_wp2
          go_ret2
          exact ⟨ret_rank (Num.rank_no_fit k hlt (by have := hx.out; omega)), Quiet.two _ _ _⟩
        · have hx2 : decide (x < 1) = false := by simpa using hx1
          by_cases hy1 : y < 0
          · go_wp2
            go_quiet (fail)
            go_wp2
            go_ret2
            exact ⟨ret_rank (Num.rank_no_fit k hlt (by have := hy.out; omega)), Quiet.two _ _ _⟩
          · have hy2 : decide (y < 0) = false := by simpa using hy1
            by_cases hyx : x ≤ y
            · go_wp2
              go_quiet (fail)
              go_wp2
              go_ret2
              exact ⟨ret_rank (Num.rank_no_fit k hlt (by have := hy.out; have := hx.out; omega)), Quiet.two _ _ _⟩
            · have hyx2 : decide (x ≤ y) = false := by simpa using hyx
              go_wp2
              go_quiet (fail)
              go_wp2
              go_roundw
              case rel => exact ⟨k + 1, _, by omega, by go_num, rfl, fit_up hall.out hy.out hx.out (by omega) (by omega) (by omega)⟩
              case measure => simp [intOf]; omega
      · have hf : Hid (Num.Fit ds bs) := fun i hi => hall.out i (by omega)
        clear hall
        go_wp2
        go_loopw [7, 8] (fun v i wr => ∃ k m : Nat, ∃ n : Int, k ≤ bs.length ∧ i = .int .i64 k ∧ wr = w.drewN m ∧ v = .int .i64 n ∧ 0 ≤ n ∧ n ≤ 1048576 ∧ Hid (n = Num.rv ds bs k)) (fun _ i _ => bs.length - (intOf i).toNat)
        case atStart => exact ⟨0, _, 0, Nat.zero_le _, rfl, rfl, rfl, by omega, by omega, rfl⟩
        case round =>
          obtain ⟨k, m, n, hk, rfl, rfl, rfl, hn0, hn1, hn⟩ := hrel
          by_cases hlt : k < bs.length
          · have hlt2 : k < ds.length := by have := hl2.out; omega
            obtain ⟨b, off, y, rfl, c1, hy⟩ := h1.at k hlt2
            obtain ⟨b', off', x, rfl, c2, hx⟩ := h2.at k hlt
            have hx1 : 1 ≤ x := by rw [hx.out]; exact (hf.out k hlt).1
            have hy1 : 0 ≤ y := by rw [hy.out]; exact (hf.out k hlt).2.1
            have hyx1 : y < x := by rw [hx.out, hy.out]; exact (hf.out k hlt).2.2
            have hrv : Hid (Num.rv ds bs (k + 1) = n * x + y) := by rw [hn.out, hx.out, hy.out]; rfl
            by_cases hp : 0 < n
            · have hp1 : decide (0 < n) = true := by simpa using hp
              by_cases hbig : 1048576 / n < x
              · have hm : 1048576 < n * x := by rw [Int.mul_comm]; exact Int.lt_mul_of_ediv_lt hp hbig
                have hm2 := Lib.hid hm
                clear hm
                go_wp2
                go_quiet (fail)
                go_wp2
                go_ret2
                exact ⟨ret_rank (Num.rank_no_big hf.out (k + 1) (by omega) (by rw [hrv.out]; have := hm2.out; omega)), by first | exact Quiet.two _ _ _ | exact Quiet.one _ _⟩
              · have hbig2 : decide (1048576 / n < x) = false := by simpa using hbig
                have hm : n * x ≤ 1048576 := by rw [Int.mul_comm]; exact Int.mul_le_of_le_ediv hp (by omega)
                have hm0 : 0 ≤ n * x := Int.mul_nonneg hn0 (by omega)
                clear hbig
                by_cases hd : 1048576 - n * x < y
                · go_wp2
                  go_quiet (fail)
                  go_wp2
                  go_ret2
                  exact ⟨ret_rank (Num.rank_no_big hf.out (k + 1) (by omega) (by rw [hrv.out]; omega)), by first | exact Quiet.two _ _ _ | exact Quiet.one _ _⟩
                · go_wp2
                  go_quiet (fail)
                  go_wp2
                  go_roundw
                  case rel => exact ⟨k + 1, _, _, by omega, by go_num, rfl, rfl, by omega, by omega, by rw [hrv.out]; rfl⟩
                  case measure => simp [intOf]; omega
            · have hp1 : decide (0 < n) = false := by simpa using hp
              obtain rfl : n = 0 := by omega
              clear hp hp1
              by_cases hd : 1048576 < y
              · go_wp2
                go_quiet (fail)
                go_wp2
                go_ret2
                exact ⟨ret_rank (Num.rank_no_big hf.out (k + 1) (by omega) (by rw [hrv.out]; omega)), by first | exact Quiet.two _ _ _ | exact Quiet.one _ _⟩
              · go_wp2
                go_quiet (fail)
                go_wp2
                go_roundw
                case rel => exact ⟨k + 1, _, _, by omega, by go_num, rfl, rfl, by omega, by omega, by show _ = _; rw [hrv.out]; omega⟩
                case measure => simp [intOf]; omega
          · obtain rfl : k = bs.length := by omega
            go_wp2
            go_ret2
            exact ⟨by rw [Num.rank_yes hl2.out hf.out (by rw [← hn.out]; exact hn1)]; rw [← hn.out]; rfl, Quiet.one _ _⟩
  · have hl' : ((ds.length : Int) != (bs.length : Int)) = true := by simp; omega
    have hx2 := Lib.hid hl
    clear hl
    go_enter Try.func14, Try.ntmps14
    go_wp2
    go_ret2
    exact ⟨ret_rank (Num.rank_no_len hx2.out), Quiet.refl _⟩

theorem Try.info3 : (Try.prog.info? 3).map (fun i => (i.zero, i.size, i.bytes)) = some (some (.int .i64 0), 1, 8) := by kernel_rfl

/-- the numbers of which the last d are taken off already -/
def part (n : Int) (bs : List Int) (d : Nat) : List Int := (List.range bs.length).map fun i => if bs.length ≤ i + d then Num.qd n bs (bs.length - 1 - i) % bs.getD i 0 else 0
theorem part_zero (n : Int) (bs : List Int) : part n bs 0 = List.replicate bs.length 0 := by
  apply List.ext_getElem
  · simp [part]
  · intro i h1 h2
    simp [part] at h1
    simp [part]; omega
theorem part_all (n : Int) (bs : List Int) : part n bs bs.length = Num.digits n bs := by
  apply List.ext_getElem
  · simp [part, Num.digits]
  · intro i h1 h2
    simp [part, Num.digits]
theorem part_step (n : Int) (bs : List Int) (d : Nat) (hd : d < bs.length) : (part n bs d).set (bs.length - 1 - d) (Num.qd n bs d % bs.getD (bs.length - 1 - d) 0) = part n bs (d + 1) := by
  apply List.ext_getElem
  · simp [part]
  · intro i h1 h2
    simp [part] at h1 h2
    rw [List.getElem_set]
    split
    · rename_i e
      simp only [part, List.getElem_map, List.getElem_range]
      rw [if_pos (by omega), ← e, show bs.length - 1 - (bs.length - 1 - d) = d by omega]
    · simp only [part, List.getElem_map, List.getElem_range]
      by_cases h : bs.length ≤ i + d
      · rw [if_pos h, if_pos (by omega)]
      · rw [if_neg h, if_neg (by omega)]
theorem part_length (n : Int) (bs : List Int) (d : Nat) : (part n bs d).length = bs.length := by simp [part]

/-- what a call of Unrank leaves -/
def UnrankPost (n : Int) (bs : List Int) (w : World) (e : Ending) (w' : World) : Prop :=
  ∃ a cap, e = .returned (.tuple #[.slice a (Num.unrank n bs).1.length cap, .bool (Num.unrank n bs).2]) ∧ IntsAt w' a (Num.unrank n bs).1 ∧ Below w.heap.size w w'

theorem unrank_post_no {n : Int} {bs : List Int} (h : Num.unrank n bs = ([], false)) {w w' : World} (hb : Below w.heap.size w w') :
    UnrankPost n bs w (.returned (.tuple #[.slice none 0 0, .bool false])) w' := by
  refine ⟨none, 0, ?_, ?_, hb⟩
  · rw [h]; rfl
  · rw [h]; exact IntsAt.nil _ _

theorem runrank_any (w : World) (a2 : Option Addr) (n2 c2 : Nat) (n : Int) (bs : List Int) (h2 : IntsAt w a2 bs) (hn2 : n2 = bs.length) (b2 : n2 * 8 ≤ 140737488351232) :
    Calls Try.prog 16 #[.int .i64 n, .slice a2 n2 c2] w (UnrankPost n bs w) := by
  subst hn2
  by_cases hn : n < 0 ∨ 1048576 < n
  · rcases hn with hn | hn
    · go_enter Try.func16, Try.ntmps16
      go_wp2
      go_ret2
      exact unrank_post_no (Num.unrank_no (.inl hn)) (Below.refl _ _)
    · have hn0 : ¬ n < 0 := by omega
      go_enter Try.func16, Try.ntmps16
      go_wp2
      go_ret2
      exact unrank_post_no (Num.unrank_no (.inr hn)) (Below.refl _ _)
  · have hn0 : ¬ n < 0 := by omega
    have hn1 : ¬ 1048576 < n := by omega
    clear hn
    obtain ⟨i0, hi, hz0, hz1, hz2⟩ := info_parts Try.info3
    go_enter Try.func16, Try.ntmps16
    go_wp2_with (at_make; refine wpList_make_full _ rfl _ _ 25 rfl w.heap.size 3 i0 (.int .i64 0) 1 Try.underlying25 hi hz0 hz1 .i64 .i64 bs.length bs.length bs.length rfl rfl rfl rfl (by rw [hz2]; omega) (by unfold maxLen; omega) (by simp) ?_)
    intro w1 hown hgrow
    have hb1 : Below w.heap.size w w1 := (Below.refl _ _).grown hgrow (Nat.le_refl _) (by simp)
    have ho : w1.ownsRow w.heap.size 3 1 (.slice (some ⟨w.heap.size, 0, none⟩) bs.length bs.length) bs.length ((part n bs 0).map (Value.int .i64)) := by
      rw [part_zero, List.map_replicate]
      simpa [toList_madeCells_one] using hown
    clear hown hgrow
    have hlen := Lib.hid (show bs.length ≤ 17592186044000 by omega)
    go_wp2
    go_loopw [0, 7] (fun v i wr => ∃ d : Nat, ∃ q : Int, d ≤ bs.length ∧ i = .int .i64 ((bs.length : Int) - 1 - (d : Int)) ∧ v = .int .i64 q ∧ 0 ≤ q ∧ q ≤ 1048576 ∧ Hid (q = Num.qd n bs d) ∧ Hid (∀ k, k < d → 1 ≤ bs.getD (bs.length - 1 - k) 0) ∧
        wr.ownsRow w.heap.size 3 1 (.slice (some ⟨w.heap.size, 0, none⟩) bs.length bs.length) bs.length ((part n bs d).map (Value.int .i64)) ∧ Below w.heap.size w wr) (fun _ i _ => (intOf i + 1).toNat)
    case atStart => exact ⟨0, n, Nat.zero_le _, by simp, rfl, by omega, by omega, rfl, fun k hk => by omega, ho, hb1⟩
    case round =>
      obtain ⟨d, q, hd, rfl, rfl, hq0, hq1, hq, hall, ho, hb⟩ := hrel
      by_cases hlt : d < bs.length
      · obtain ⟨b, off, x, rfl, hbb, c2, hx⟩ := h2.atb hb (bs.length - 1 - d) (by omega)
        have e1 : ((bs.length : Int) - 1 - (d : Int)).toNat = bs.length - 1 - d := by omega
        obtain ⟨y, e2, _⟩ := ownsInt_at ho (bs.length - 1 - d) (by rw [part_length]; omega)
        have e3 := ho.frozenAt (bs.length - 1 - d)
        by_cases hx1 : x < 1
        · go_wp2
          go_ret2
          exact unrank_post_no (Num.unrank_no_base (bs.length - 1 - d) (by omega) (by rw [← hx.out]; exact hx1)) hb
        · have ho2 := ownsInt_set ho (bs.length - 1 - d) (q % x)
          have hs : Hid ((part n bs d).set (bs.length - 1 - d) (q % x) = part n bs (d + 1)) := by
            rw [hq.out, hx.out]; exact part_step n bs d hlt
          have hq3 : 0 ≤ q / x := Int.ediv_nonneg hq0 (by omega)
          have hq4 : q / x ≤ q := Int.ediv_le_self _ hq0
          rw [hs.out] at ho2
          have hb2 := hb.setCell (p := ⟨w.heap.size, bs.length - 1 - d, none⟩) (Nat.le_refl _) (.int .i64 (q % x))
          go_wp2
          go_roundw
          case rel =>
            refine ⟨d + 1, _, by omega, by go_num, rfl, by omega, by omega, ?_, ?_, ho2, hb2⟩
            · show _ = _; rw [hq.out, hx.out]; rfl
            · intro k hk
              by_cases hkd : k = d
              · subst hkd; rw [← hx.out]; omega
              · exact hall.out k (by omega)
          case measure => simp [intOf]; omega
      · obtain rfl : d = bs.length := by omega
        have hp : Num.Pos bs := fun i hi => by
          have := hall.out (bs.length - 1 - i) (by omega)
          rwa [show bs.length - 1 - (bs.length - 1 - i) = i by omega] at this
        have hp := Lib.hid hp
        by_cases hq2 : 0 < q
        · go_wp2
          go_ret2
          exact unrank_post_no (Num.unrank_no_left (by rw [← hq.out]; exact hq2)) hb
        · go_wp2
          go_ret2
          have hu : Num.unrank n bs = (Num.digits n bs, true) := Num.unrank_yes (by omega) (by omega) hp.out (by rw [← hq.out]; omega)
          rw [part_all] at ho
          refine ⟨some ⟨w.heap.size, 0, none⟩, bs.length, ?_, ?_, hb⟩
          · rw [hu]; simp only [Num.digits_length]; rfl
          · rw [hu]; exact IntsAt.of_owns ho
end Go.Proofs.Ytcbdldmejknfnaa
