/- The document's reader: wrong, signed, Left, Num. Conditions: bytes. -/
import Derived.Test.YtpnkfhfaoomdpaaOctetRead4
namespace Go.Proofs.Ytpnkfhfaoomdpaa
open Go.RowKit

theorem bold {W w1 : World} (hb : Below W.heap.size W w1) : (∀ b o, b < W.heap.size → w1.cell? ⟨b, o, none⟩ = W.cell? ⟨b, o, none⟩) ∧ (∀ b o, b < W.heap.size → w1.frozen? ⟨b, o, none⟩ = W.frozen? ⟨b, o, none⟩) :=
  ⟨fun b o h => hb.cell (p := ⟨b, o, none⟩) h, fun b o h => hb.frozen (p := ⟨b, o, none⟩) h⟩
theorem x_wrong (w : World) (a : Option Addr) (n cap : Nat) (p e e2 : Int) :
    Calls Try.prog 31 #[.agg #[.slice a n cap, .int .i64 p, .int .i64 e], .int .i64 e2] w fun r w' => r = .returned (.agg #[.slice a n cap, .int .i64 p, .int .i64 e2]) ∧ Below w.heap.size w w' := by
  go_enter Try.func31, Try.ntmps31
  go_wp2
  exact bodyPost_ret (v := .agg #[.slice a n cap, .int .i64 p, .int .i64 e2]) (by simp [results, Try.results31, go_sem]) rfl ⟨rfl, by first | exact ((Below.refl _ _).alloc (Nat.le_refl _) _).alloc (by simp) _ | exact (((Below.refl _ _).alloc (Nat.le_refl _) _).alloc (by simp) _).setCell (by simp) _⟩
theorem x_left (w : World) (a : Option Addr) (n cap : Nat) (p e : Int) (hp : -1000000 ≤ p ∧ p ≤ 1000000) (hn : n ≤ 1000000) :
    Calls Try.prog 28 #[.agg #[.slice a n cap, .int .i64 p, .int .i64 e]] w fun r w' => r = .returned (.int .i64 ((n : Int) - p)) ∧ Below w.heap.size w w' := by
  go_enter Try.func28, Try.ntmps28
  go_wp2
  go_ret
  exact ⟨rfl, (Below.refl _ _).alloc (Nat.le_refl _) _⟩
theorem x_signed (w : World) (u : Nat) (hu : u < 18446744073709551616) :
    Calls Try.prog 32 #[.int .u64 u] w fun r w' => r = .returned (.int .i64 (Octet.sgn u)) ∧ w = w' := by
  have et : (u : Int).tmod 2 = (u : Int) % 2 := Int.tmod_eq_emod_of_nonneg (by omega)
  have ed : (u : Int).tdiv 2 = (u : Int) / 2 := Int.tdiv_eq_ediv_of_nonneg (by omega)
  by_cases h : u % 2 = 0
  · have h1 : (u : Int) % 2 = 0 := by omega
    have e1 : IntKind.i64.wrap ((u : Int) / 2) = (u : Int) / 2 := IntWalk.i64_in _ (by omega)
    have hs := Lib.hid (show Octet.sgn u = (u : Int) / 2 by unfold Octet.sgn; rw [if_pos h]; omega)
    go_enter Try.func32, Try.ntmps32
    go_wp2
    go_ret
    exact ⟨ret_int hs.out.symm, rfl⟩
  · have h1 : ((u : Int) % 2 == 0) = false := by simp; omega
    have e1 : IntKind.i64.wrap ((u : Int) / 2) = (u : Int) / 2 := IntWalk.i64_in _ (by omega)
    have e2 : IntKind.i64.wrap (-((u : Int) / 2)) = -((u : Int) / 2) := IntWalk.i64_in _ (by omega)
    have hs := Lib.hid (show Octet.sgn u = -((u : Int) / 2) - 1 by unfold Octet.sgn; rw [if_neg h]; omega)
    go_enter Try.func32, Try.ntmps32
    go_wp2
    go_ret
    exact ⟨ret_int hs.out.symm, rfl⟩

namespace Octet
theorem val_drop : ∀ (l : List Int) (i : Nat), val (l.drop i) ≤ val l
  | [], i => by simp
  | b :: l, 0 => by simp
  | b :: l, i + 1 => by
    have := val_drop l i
    simp only [List.drop_succ_cons, val]
    omega
theorem val_at {l : List Int} {i : Nat} (hi : i < l.length) : val (l.drop i) = (l.getD i 0 % 128).toNat + 128 * val (l.drop (i + 1)) := by
  rw [List.drop_eq_getElem_cons hi, List.getD_eq_getElem?_getD, List.getElem?_eq_getElem hi]
  rfl
end Octet

theorem bel2 {w w1 : World} {o o2 : Obj} (hb : Below ((w.alloc o).alloc o2).heap.size ((w.alloc o).alloc o2) w1) : Below w.heap.size w w1 := btrans (balloc (balloc (Below.refl _ _) o) o2) hb
theorem bset {w w1 : World} {n j : Nat} {v : Value} (h : Below w.heap.size w w1) (hn : w.heap.size ≤ n) : Below w.heap.size w (w1.setCell ⟨n, j, none⟩ v) := h.setCell (by exact hn) v
/-- a reader and what came of it -/
def XEnds (w : World) (a : Option Addr) (n cap : Nat) (q : Nat × Int × Int) (r : Ending) (w' : World) : Prop := r = .returned (.tuple #[.agg #[.slice a n cap, .int .i64 q.1, .int .i64 q.2.1], .int .i64 q.2.2]) ∧ Below w.heap.size w w'

set_option maxHeartbeats 4000000 in
theorem x_num (w : World) (a : Option Addr) (cap : Nat) (bs : List Int) (p : Nat) (e : Int) (hN : NumsAt .u8 w a bs) (hp : p ≤ bs.length) (hb : bs.length ≤ 10000) (hx : ∀ x ∈ bs, 0 ≤ x ∧ x ≤ 255) :
    Calls Try.prog 20 #[.agg #[.slice a bs.length cap, .int .i64 p, .int .i64 e]] w (XEnds w a bs.length cap (Octet.rNum bs p e)) := by
  by_cases he : e = 0
  · subst he
    generalize hm : Octet.rNum bs p 0 = m
    unfold Octet.rNum at hm
    rw [if_neg (by simp)] at hm
    have HM := Lib.hid hm
    clear hm
    have hdl : (bs.drop p).length = bs.length - p := List.length_drop
    have hcell : ∀ j, j < (bs.drop p).length → ∃ b off x, a = some ⟨b, off, none⟩ ∧ b < w.heap.size ∧ w.cell? ⟨b, off + (p + j), none⟩ = some (.int .u8 x) ∧ Hid (x = (bs.drop p).getD j 0) ∧ 0 ≤ x ∧ x ≤ 255 := fun j hj => by
      obtain ⟨b, off, x, e, hlt, cx, hxx⟩ := hN.atb (Below.refl _ _) (p + j) (by omega)
      have e2 : bs.getD (p + j) 0 = (bs.drop p).getD j 0 := by simp [List.getD]
      refine ⟨b, off, x, e, hlt, cx, by rw [← e2]; exact hxx, ?_⟩
      have hm : x ∈ bs := by rw [hxx.out, List.getD_eq_getElem?_getD, List.getElem?_eq_getElem (by omega)]; exact List.getElem_mem _
      exact hx x hm
    have HC := Lib.hid hcell
    have hlb := Octet.lead_big (bs.drop p)
    have hls := Octet.lead_small (bs.drop p)
    have hll := Octet.lead_le (bs.drop p)
    clear hcell hN hx
    obtain ⟨d, hd⟩ : ∃ d, d = bs.drop p := ⟨_, rfl⟩
    rw [← hd] at HM hdl HC hlb hls hll
    have HD := Lib.hid hd
    clear hd
    obtain ⟨L, hL⟩ : ∃ L, L = Octet.lead d := ⟨_, rfl⟩
    rw [← hL] at HM hlb hls hll
    obtain ⟨N, hN⟩ : ∃ N, N = d.length := ⟨_, rfl⟩
    rw [← hN] at hdl HC hll hls
    have HL := Lib.hid hL
    have HN := Lib.hid hN
    replace hlb := Lib.hid hlb
    replace hls := Lib.hid hls
    clear hL hN
    go_enter Try.func20, Try.ntmps20
    go_wp2
    go_loop [4] (fun nv => ∃ k : Nat, k ≤ 10 ∧ k ≤ L ∧ nv = .int .i64 k) (fun nv => 10 - (intOf nv).toNat)
    case atStart => exact ⟨0, Nat.zero_le _, Nat.zero_le _, rfl⟩
    case round =>
      obtain ⟨k, hk, hkL, rfl⟩ := hrel
      by_cases h10 : k = 10
      · subst h10
        have herr := Lib.hid (show Octet.err d = 3 by unfold Octet.err; rw [← HL.out, if_pos hkL])
        have HM2 : Hid (m = (p, 3, 0)) := by have := HM.out; rw [herr.out, if_pos (by decide)] at this; exact this.symm
        have hne : (10 : Int) < 10 ↔ False := by simp
        go_wp2_with fail
        refine (x_wrong _ _ _ _ _ _ _).mono ?_
        rintro r w1 ⟨rfl, hb1⟩
        obtain ⟨hc, hf⟩ := bold hb1
        have hz := hb1.size
        go_wp2
        rw [HM2.out]
        refine bodyPost_ret (v := .tuple #[.agg #[.slice a bs.length cap, .int .i64 p, .int .i64 3], .int .i64 0]) (by simp [results, Try.results20, go_sem, hc, hz]) rfl ⟨rfl, ?_⟩
        exact bset (bset (bset (bel2 hb1) (by omega)) (by omega)) (by omega)
      have hk10 : k < 10 := by omega
      have hb10 : ((k : Int) == 10) = false := by simp; omega
      clear h10
      by_cases hkN : k = N
      · have hge : decide ((p : Int) + (k : Int) < (bs.length : Int)) = false := by simp; omega
        have hge2 : (bs.length : Int) ≤ (p : Int) + (k : Int) := by omega
        have herr := Lib.hid (show Octet.err d = 4 by unfold Octet.err; rw [← HL.out, ← HN.out, if_neg (by omega), if_pos (by omega)])
        have HM2 : Hid (m = (p, 4, 0)) := by have := HM.out; rw [herr.out, if_pos (by decide)] at this; exact this.symm
        go_wp2_with fail
        refine (x_wrong _ _ _ _ _ _ _).mono ?_
        rintro r w1 ⟨rfl, hb1⟩
        obtain ⟨hc, hf⟩ := bold hb1
        have hz := hb1.size
        go_wp2
        rw [HM2.out]
        refine bodyPost_ret (v := .tuple #[.agg #[.slice a bs.length cap, .int .i64 p, .int .i64 4], .int .i64 0]) (by simp [results, Try.results20, go_sem, hc, hz]) rfl ⟨rfl, ?_⟩
        exact bset (bset (bset (bel2 hb1) (by omega)) (by omega)) (by omega)
      have hlt : (p : Int) + (k : Int) < (bs.length : Int) := by omega
      obtain ⟨b, off, x, hab, hbl, cx, hxx, x0, x1⟩ := HC.out k (by omega)
      by_cases hbig : 128 ≤ x
      · have hkl : k < L := by
          rcases Nat.lt_or_ge k L with h | h
          · exact h
          · have e : k = L := by omega
            have := hls.out (by omega)
            rw [← e, ← hxx.out] at this
            omega
        subst hab
        go_wp2
        go_round
        case rel => exact ⟨k + 1, by omega, by omega, by go_num⟩
        case measure => simp [intOf]; omega
      have hkl : k = L := by
        rcases Nat.lt_or_ge k L with h | h
        · have := hlb.out k h
          rw [← hxx.out] at this
          omega
        · omega
      have hbig' : decide (128 ≤ x) = false := by simp; omega
      have hge' : decide ((bs.length : Int) ≤ (p : Int) + (k : Int)) = false := by simp; omega
      have hkN' : k < N := by omega
      clear hkN hbig
      subst hab
      subst hkl
      by_cases h9 : k = 9
      · have hb9 : ((k : Int) == 9) = true := by simp; omega
        have hlt9 : (p : Int) + 9 < (bs.length : Int) := by omega
        have c9 : w.cell? ⟨b, off + (p + 9), none⟩ = some (.int .u8 x) := by rw [← h9]; exact cx
        have hx9 : x = d.getD 9 0 := by rw [← h9]; exact hxx.out
        have hpos : 0 < (k : Int) := by omega
        have hpn : 0 < k := by omega
        by_cases hgt : 1 < x
        · have e9 := HL.out
          have herr := Lib.hid (show Octet.err d = 3 by unfold Octet.err; rw [← e9, ← HN.out, if_neg (by omega), if_neg (by omega), if_pos (.inl ⟨h9, by rw [← hx9]; exact hgt⟩)])
          have HM2 : Hid (m = (p, 3, 0)) := by have := HM.out; rw [herr.out, if_pos (by decide)] at this; exact this.symm
          clear hx9 e9
          go_wp2_with fail
          refine (x_wrong _ _ _ _ _ _ _).mono ?_
          rintro r w1 ⟨rfl, hb1⟩
          obtain ⟨hc, hf⟩ := bold hb1
          have hz := hb1.size
          go_wp2
          rw [HM2.out]
          refine bodyPost_ret (v := .tuple #[.agg #[.slice (some ⟨b, off, none⟩) bs.length cap, .int .i64 p, .int .i64 3], .int .i64 0]) (by simp [results, Try.results20, go_sem, hc, hz]) rfl ⟨rfl, ?_⟩
          exact bset (bset (bset (bel2 hb1) (by omega)) (by omega)) (by omega)
        have hgt' : decide (1 < x) = false := by simp; omega
        by_cases hx0 : x = 0
        · have hxb : (x == 0) = true := by simp [hx0]
          have herr := Lib.hid (show Octet.err d = 3 by unfold Octet.err; rw [← HL.out, ← HN.out, if_neg (by omega), if_neg (by omega), if_pos (.inr ⟨by omega, by rw [← hxx.out]; exact hx0⟩)])
          have HM2 : Hid (m = (p, 3, 0)) := by have := HM.out; rw [herr.out, if_pos (by decide)] at this; exact this.symm
          clear hx9 hx0
          go_wp2_with fail
          refine (x_wrong _ _ _ _ _ _ _).mono ?_
          rintro r w1 ⟨rfl, hb1⟩
          obtain ⟨hc, hf⟩ := bold hb1
          have hz := hb1.size
          go_wp2
          rw [HM2.out]
          refine bodyPost_ret (v := .tuple #[.agg #[.slice (some ⟨b, off, none⟩) bs.length cap, .int .i64 p, .int .i64 3], .int .i64 0]) (by simp [results, Try.results20, go_sem, hc, hz]) rfl ⟨rfl, ?_⟩
          exact bset (bset (bset (bel2 hb1) (by omega)) (by omega)) (by omega)
        have hxb : (x == 0) = false := by simpa using hx0
        have hle9 : Hid (k = 9 → d.getD 9 0 ≤ 1) := fun _ => by omega
        have herr := Lib.hid (show Octet.err d = 0 by unfold Octet.err; rw [← HL.out, ← HN.out, if_neg (by omega), if_neg (by omega), if_neg (fun h => h.elim (fun h => hgt (by rw [hx9]; exact h.2)) (fun h => hx0 (by rw [hxx.out]; exact h.2)))])
        clear hx9 hx0 hgt h9
        have HM2 : Hid (m = (p + k + 1, 0, Octet.sgn (Octet.val (d.take (k + 1))))) := by have := HM.out; rw [herr.out, if_neg (by decide)] at this; exact this.symm
        obtain rfl := HM2.out
        clear HM2 HM herr
        have hT : (d.take (k + 1)).length = k + 1 := by rw [List.length_take]; have := HN.out; omega
        have hval : Octet.val (d.take (k + 1)) < 18446744073709551616 := by
          refine Octet.val_lt64 (by omega) (fun e => ?_)
          have e9 : (d.take (k + 1)).getD 9 0 = d.getD 9 0 := by
            rw [List.getD_eq_getElem?_getD, List.getElem?_take, if_pos (by omega), ← List.getD_eq_getElem?_getD]
          rw [e9]
          obtain ⟨b9, o9, x9, _, _, _, hx9, h0, _⟩ := HC.out 9 (by omega)
          exact ⟨hle9.out (by omega), by rw [← hx9.out]; exact h0⟩
        replace hT := Lib.hid hT
        replace hval := Lib.hid hval
        go_wp2
        go_loop [5, 6] (fun uv iv => ∃ (i : Nat) (v : Int), v = (i : Int) - 1 ∧ i ≤ k + 1 ∧ iv = .int .i64 v ∧ uv = .int .u64 (Octet.val ((d.take (k + 1)).drop i))) (fun _ iv => (intOf iv + 1).toNat)
        case atStart => exact ⟨k + 1, (k : Int), by omega, Nat.le_refl _, rfl, by rw [List.drop_of_length_le (by rw [hT.out]; omega)]; rfl⟩
        case round =>
          obtain ⟨i, v, hv, hi, rfl, rfl⟩ := hrel
          cases i with
          | zero =>
            obtain rfl : v = -1 := by omega
            clear hv
            have hu : Hid (Octet.val ((d.take (k + 1)).drop 0) = Octet.val (d.take (k + 1))) := rfl
            have hul : Octet.val ((d.take (k + 1)).drop 0) < 18446744073709551616 := hval.out
            generalize Octet.val ((d.take (k + 1)).drop 0) = u at hu hul
            have hw1 : IntKind.i64.wrap ((p : Int) + (k : Int)) = (p : Int) + (k : Int) := IntWalk.i64_in _ (by omega)
            have hw2 : IntKind.i64.wrap ((p : Int) + (k : Int) + 1) = (p : Int) + (k : Int) + 1 := IntWalk.i64_in _ (by omega)
            go_wp2
            refine wp_region_still_tail 10 (by kernel_rfl) (by kernel_rfl) ?_
            simp only [List.take_succ_cons, List.take_zero, List.drop_succ_cons, List.drop_zero, World.drew_eq]
            repeat still_step
            still_call (x_signed _ _ hul).mono (fun _ _ ⟨h1, h2⟩ => ⟨h1, h2.symm⟩)
            refine wpStill_nil ?_
            go_wp2
            refine bodyPost_ret (v := .tuple #[.agg #[.slice (some ⟨b, off, none⟩) bs.length cap, .int .i64 ((p : Int) + (k : Int) + 1), .int .i64 0], .int .i64 (Octet.sgn u)]) (by simp [results, Try.results20, go_sem]) rfl ⟨by simp [hu.out], ?_⟩
            exact (balloc (balloc (Below.refl _ _) _) _).drew
          | succ j =>
            obtain rfl : v = (j : Int) := by omega
            clear hv
            obtain ⟨b2, o2, y, hab, hlt2, cy, hy, y0, y1⟩ := HC.out j (by omega)
            have hst : Hid (Octet.val ((d.take (k + 1)).drop j) = (y % 128).toNat + 128 * Octet.val ((d.take (k + 1)).drop (j + 1))) := by
              have h1 := Octet.val_at (l := d.take (k + 1)) (i := j) (by rw [hT.out]; omega)
              have e9 : (d.take (k + 1)).getD j 0 = d.getD j 0 := by
                rw [List.getD_eq_getElem?_getD, List.getElem?_take, if_pos (by omega), ← List.getD_eq_getElem?_getD]
              rw [e9, ← hy.out] at h1
              exact h1
            have hle := Nat.lt_of_le_of_lt (Octet.val_drop (d.take (k + 1)) j) hval.out
            rw [hst.out] at hle
            have hn : Hid (∀ u : Nat, u = Octet.val ((d.take (k + 1)).drop (j + 1)) → Octet.val ((d.take (k + 1)).drop j) = (y % 128).toNat + 128 * u) := fun u hu => by rw [hu, hst.out]
            generalize hu : Octet.val ((d.take (k + 1)).drop (j + 1)) = u at hle
            have HU := Lib.hid hu.symm
            clear hu hst
            have et : y.tmod 128 = y % 128 := Int.tmod_eq_emod_of_nonneg y0
            have e1 : IntKind.u64.wrap (y % 128) = y % 128 := IntWalk.u64_in _ (by omega)
            have e2 : IntKind.u64.wrap ((u : Int) * 128) = (u : Int) * 128 := IntWalk.u64_in _ (by omega)
            have e3 : IntKind.u64.wrap ((u : Int) * 128 + y % 128) = (u : Int) * 128 + y % 128 := IntWalk.u64_in _ (by omega)
            cases hab
            go_wp2
            go_round
            case rel => exact ⟨j, (j : Int) - 1, rfl, by omega, rfl, by rw [hn.out u HU.out, show (((y % 128).toNat + 128 * u : Nat) : Int) = (u : Int) * 128 + y % 128 by omega]⟩
            case measure => first | (simp [intOf]; done) | (simp [intOf]; omega)
      have hb9 : ((k : Int) == 9) = false := by simp; omega
      have hle9 : Hid (k = 9 → d.getD 9 0 ≤ 1) := fun e => absurd e h9
      by_cases hk0 : k = 0
      · have hpos : decide (0 < (k : Int)) = false := by simp; omega
        have hpn : decide (0 < k) = false := by simp; omega
        have herr := Lib.hid (show Octet.err d = 0 by unfold Octet.err; rw [← HL.out, ← HN.out, if_neg (by omega), if_neg (by omega), if_neg (by omega)])
        clear hk0 h9
        have HM2 : Hid (m = (p + k + 1, 0, Octet.sgn (Octet.val (d.take (k + 1))))) := by have := HM.out; rw [herr.out, if_neg (by decide)] at this; exact this.symm
        obtain rfl := HM2.out
        clear HM2 HM herr
        have hT : (d.take (k + 1)).length = k + 1 := by rw [List.length_take]; have := HN.out; omega
        have hval : Octet.val (d.take (k + 1)) < 18446744073709551616 := by
          refine Octet.val_lt64 (by omega) (fun e => ?_)
          have e9 : (d.take (k + 1)).getD 9 0 = d.getD 9 0 := by
            rw [List.getD_eq_getElem?_getD, List.getElem?_take, if_pos (by omega), ← List.getD_eq_getElem?_getD]
          rw [e9]
          obtain ⟨b9, o9, x9, _, _, _, hx9, h0, _⟩ := HC.out 9 (by omega)
          exact ⟨hle9.out (by omega), by rw [← hx9.out]; exact h0⟩
        replace hT := Lib.hid hT
        replace hval := Lib.hid hval
        go_wp2
        go_loop [5, 6] (fun uv iv => ∃ (i : Nat) (v : Int), v = (i : Int) - 1 ∧ i ≤ k + 1 ∧ iv = .int .i64 v ∧ uv = .int .u64 (Octet.val ((d.take (k + 1)).drop i))) (fun _ iv => (intOf iv + 1).toNat)
        case atStart => exact ⟨k + 1, (k : Int), by omega, Nat.le_refl _, rfl, by rw [List.drop_of_length_le (by rw [hT.out]; omega)]; rfl⟩
        case round =>
          obtain ⟨i, v, hv, hi, rfl, rfl⟩ := hrel
          cases i with
          | zero =>
            obtain rfl : v = -1 := by omega
            clear hv
            have hu : Hid (Octet.val ((d.take (k + 1)).drop 0) = Octet.val (d.take (k + 1))) := rfl
            have hul : Octet.val ((d.take (k + 1)).drop 0) < 18446744073709551616 := hval.out
            generalize Octet.val ((d.take (k + 1)).drop 0) = u at hu hul
            have hw1 : IntKind.i64.wrap ((p : Int) + (k : Int)) = (p : Int) + (k : Int) := IntWalk.i64_in _ (by omega)
            have hw2 : IntKind.i64.wrap ((p : Int) + (k : Int) + 1) = (p : Int) + (k : Int) + 1 := IntWalk.i64_in _ (by omega)
            go_wp2
            refine wp_region_still_tail 10 (by kernel_rfl) (by kernel_rfl) ?_
            simp only [List.take_succ_cons, List.take_zero, List.drop_succ_cons, List.drop_zero, World.drew_eq]
            repeat still_step
            still_call (x_signed _ _ hul).mono (fun _ _ ⟨h1, h2⟩ => ⟨h1, h2.symm⟩)
            refine wpStill_nil ?_
            go_wp2
            refine bodyPost_ret (v := .tuple #[.agg #[.slice (some ⟨b, off, none⟩) bs.length cap, .int .i64 ((p : Int) + (k : Int) + 1), .int .i64 0], .int .i64 (Octet.sgn u)]) (by simp [results, Try.results20, go_sem]) rfl ⟨by simp [hu.out], ?_⟩
            exact (balloc (balloc (Below.refl _ _) _) _).drew
          | succ j =>
            obtain rfl : v = (j : Int) := by omega
            clear hv
            obtain ⟨b2, o2, y, hab, hlt2, cy, hy, y0, y1⟩ := HC.out j (by omega)
            have hst : Hid (Octet.val ((d.take (k + 1)).drop j) = (y % 128).toNat + 128 * Octet.val ((d.take (k + 1)).drop (j + 1))) := by
              have h1 := Octet.val_at (l := d.take (k + 1)) (i := j) (by rw [hT.out]; omega)
              have e9 : (d.take (k + 1)).getD j 0 = d.getD j 0 := by
                rw [List.getD_eq_getElem?_getD, List.getElem?_take, if_pos (by omega), ← List.getD_eq_getElem?_getD]
              rw [e9, ← hy.out] at h1
              exact h1
            have hle := Nat.lt_of_le_of_lt (Octet.val_drop (d.take (k + 1)) j) hval.out
            rw [hst.out] at hle
            have hn : Hid (∀ u : Nat, u = Octet.val ((d.take (k + 1)).drop (j + 1)) → Octet.val ((d.take (k + 1)).drop j) = (y % 128).toNat + 128 * u) := fun u hu => by rw [hu, hst.out]
            generalize hu : Octet.val ((d.take (k + 1)).drop (j + 1)) = u at hle
            have HU := Lib.hid hu.symm
            clear hu hst
            have et : y.tmod 128 = y % 128 := Int.tmod_eq_emod_of_nonneg y0
            have e1 : IntKind.u64.wrap (y % 128) = y % 128 := IntWalk.u64_in _ (by omega)
            have e2 : IntKind.u64.wrap ((u : Int) * 128) = (u : Int) * 128 := IntWalk.u64_in _ (by omega)
            have e3 : IntKind.u64.wrap ((u : Int) * 128 + y % 128) = (u : Int) * 128 + y % 128 := IntWalk.u64_in _ (by omega)
            cases hab
            go_wp2
            go_round
            case rel => exact ⟨j, (j : Int) - 1, rfl, by omega, rfl, by rw [hn.out u HU.out, show (((y % 128).toNat + 128 * u : Nat) : Int) = (u : Int) * 128 + y % 128 by omega]⟩
            case measure => first | (simp [intOf]; done) | (simp [intOf]; omega)
      have hpos : 0 < (k : Int) := by omega
      have hpn : 0 < k := by omega
      by_cases hx0 : x = 0
      · have hxb : (x == 0) = true := by simp [hx0]
        have herr := Lib.hid (show Octet.err d = 3 by unfold Octet.err; rw [← HL.out, ← HN.out, if_neg (by omega), if_neg (by omega), if_pos (.inr ⟨by omega, by rw [← hxx.out]; exact hx0⟩)])
        have HM2 : Hid (m = (p, 3, 0)) := by have := HM.out; rw [herr.out, if_pos (by decide)] at this; exact this.symm
        clear hx0 h9 hk0
        go_wp2_with fail
        refine (x_wrong _ _ _ _ _ _ _).mono ?_
        rintro r w1 ⟨rfl, hb1⟩
        obtain ⟨hc, hf⟩ := bold hb1
        have hz := hb1.size
        go_wp2
        rw [HM2.out]
        refine bodyPost_ret (v := .tuple #[.agg #[.slice (some ⟨b, off, none⟩) bs.length cap, .int .i64 p, .int .i64 3], .int .i64 0]) (by simp [results, Try.results20, go_sem, hc, hz]) rfl ⟨rfl, ?_⟩
        exact bset (bset (bset (bel2 hb1) (by omega)) (by omega)) (by omega)
      have hxb : (x == 0) = false := by simpa using hx0
      have herr := Lib.hid (show Octet.err d = 0 by unfold Octet.err; rw [← HL.out, ← HN.out, if_neg (by omega), if_neg (by omega), if_neg (fun h => h.elim (fun h => h9 h.1) (fun h => hx0 (by rw [hxx.out]; exact h.2)))])
      clear hx0 h9 hk0
      have HM2 : Hid (m = (p + k + 1, 0, Octet.sgn (Octet.val (d.take (k + 1))))) := by have := HM.out; rw [herr.out, if_neg (by decide)] at this; exact this.symm
      obtain rfl := HM2.out
      clear HM2 HM herr
      have hT : (d.take (k + 1)).length = k + 1 := by rw [List.length_take]; have := HN.out; omega
      have hval : Octet.val (d.take (k + 1)) < 18446744073709551616 := by
        refine Octet.val_lt64 (by omega) (fun e => ?_)
        have e9 : (d.take (k + 1)).getD 9 0 = d.getD 9 0 := by
          rw [List.getD_eq_getElem?_getD, List.getElem?_take, if_pos (by omega), ← List.getD_eq_getElem?_getD]
        rw [e9]
        obtain ⟨b9, o9, x9, _, _, _, hx9, h0, _⟩ := HC.out 9 (by omega)
        exact ⟨hle9.out (by omega), by rw [← hx9.out]; exact h0⟩
      replace hT := Lib.hid hT
      replace hval := Lib.hid hval
      go_wp2
      go_loop [5, 6] (fun uv iv => ∃ (i : Nat) (v : Int), v = (i : Int) - 1 ∧ i ≤ k + 1 ∧ iv = .int .i64 v ∧ uv = .int .u64 (Octet.val ((d.take (k + 1)).drop i))) (fun _ iv => (intOf iv + 1).toNat)
      case atStart => exact ⟨k + 1, (k : Int), by omega, Nat.le_refl _, rfl, by rw [List.drop_of_length_le (by rw [hT.out]; omega)]; rfl⟩
      case round =>
        obtain ⟨i, v, hv, hi, rfl, rfl⟩ := hrel
        cases i with
        | zero =>
          obtain rfl : v = -1 := by omega
          clear hv
          have hu : Hid (Octet.val ((d.take (k + 1)).drop 0) = Octet.val (d.take (k + 1))) := rfl
          have hul : Octet.val ((d.take (k + 1)).drop 0) < 18446744073709551616 := hval.out
          generalize Octet.val ((d.take (k + 1)).drop 0) = u at hu hul
          have hw1 : IntKind.i64.wrap ((p : Int) + (k : Int)) = (p : Int) + (k : Int) := IntWalk.i64_in _ (by omega)
          have hw2 : IntKind.i64.wrap ((p : Int) + (k : Int) + 1) = (p : Int) + (k : Int) + 1 := IntWalk.i64_in _ (by omega)
          go_wp2
          refine wp_region_still_tail 10 (by kernel_rfl) (by kernel_rfl) ?_
          simp only [List.take_succ_cons, List.take_zero, List.drop_succ_cons, List.drop_zero, World.drew_eq]
          repeat still_step
          still_call (x_signed _ _ hul).mono (fun _ _ ⟨h1, h2⟩ => ⟨h1, h2.symm⟩)
          refine wpStill_nil ?_
          go_wp2
          refine bodyPost_ret (v := .tuple #[.agg #[.slice (some ⟨b, off, none⟩) bs.length cap, .int .i64 ((p : Int) + (k : Int) + 1), .int .i64 0], .int .i64 (Octet.sgn u)]) (by simp [results, Try.results20, go_sem]) rfl ⟨by simp [hu.out], ?_⟩
          exact (balloc (balloc (Below.refl _ _) _) _).drew
        | succ j =>
          obtain rfl : v = (j : Int) := by omega
          clear hv
          obtain ⟨b2, o2, y, hab, hlt2, cy, hy, y0, y1⟩ := HC.out j (by omega)
          have hst : Hid (Octet.val ((d.take (k + 1)).drop j) = (y % 128).toNat + 128 * Octet.val ((d.take (k + 1)).drop (j + 1))) := by
            have h1 := Octet.val_at (l := d.take (k + 1)) (i := j) (by rw [hT.out]; omega)
            have e9 : (d.take (k + 1)).getD j 0 = d.getD j 0 := by
              rw [List.getD_eq_getElem?_getD, List.getElem?_take, if_pos (by omega), ← List.getD_eq_getElem?_getD]
            rw [e9, ← hy.out] at h1
            exact h1
          have hle := Nat.lt_of_le_of_lt (Octet.val_drop (d.take (k + 1)) j) hval.out
          rw [hst.out] at hle
          have hn : Hid (∀ u : Nat, u = Octet.val ((d.take (k + 1)).drop (j + 1)) → Octet.val ((d.take (k + 1)).drop j) = (y % 128).toNat + 128 * u) := fun u hu => by rw [hu, hst.out]
          generalize hu : Octet.val ((d.take (k + 1)).drop (j + 1)) = u at hle
          have HU := Lib.hid hu.symm
          clear hu hst
          have et : y.tmod 128 = y % 128 := Int.tmod_eq_emod_of_nonneg y0
          have e1 : IntKind.u64.wrap (y % 128) = y % 128 := IntWalk.u64_in _ (by omega)
          have e2 : IntKind.u64.wrap ((u : Int) * 128) = (u : Int) * 128 := IntWalk.u64_in _ (by omega)
          have e3 : IntKind.u64.wrap ((u : Int) * 128 + y % 128) = (u : Int) * 128 + y % 128 := IntWalk.u64_in _ (by omega)
          cases hab
          go_wp2
          go_round
          case rel => exact ⟨j, (j : Int) - 1, rfl, by omega, rfl, by rw [hn.out u HU.out, show (((y % 128).toNat + 128 * u : Nat) : Int) = (u : Int) * 128 + y % 128 by omega]⟩
          case measure => first | (simp [intOf]; done) | (simp [intOf]; omega)
  · have he' : (e != 0) = true := by simpa using he
    have hr : Hid (Octet.rNum bs p e = (p, e, 0)) := by unfold Hid Octet.rNum; rw [if_pos he]
    rw [hr.out]
    clear hr hN hx
    go_enter Try.func20, Try.ntmps20
    go_wp2
    exact bodyPost_ret (v := .tuple #[.agg #[.slice a bs.length cap, .int .i64 p, .int .i64 e], .int .i64 0]) (by simp [results, Try.results20, go_sem]) rfl ⟨rfl, ((Below.refl _ _).alloc (Nat.le_refl _) _).alloc (by simp) _⟩
end Go.Proofs.Ytpnkfhfaoomdpaa
