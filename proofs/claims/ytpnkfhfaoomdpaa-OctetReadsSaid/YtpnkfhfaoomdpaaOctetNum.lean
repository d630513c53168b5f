/- A reader's Num. Conditions: bytes. -/
import Derived.Test.YtpnkfhfaoomdpaaOctetWrong
namespace Go.Proofs.Ytpnkfhfaoomdpaa
open Go.RowKit

namespace Octet
def val : List Int → Nat
  | [] => 0
  | b :: l => (b % 128).toNat + 128 * val l
theorem val_snoc : ∀ (l : List Int) (b : Int), val (l ++ [b]) = val l + 128 ^ l.length * (b % 128).toNat
  | [], b => by simp [val]
  | c :: l, b => by
    simp only [List.cons_append, val, val_snoc l b, List.length_cons, Nat.pow_succ]
    rw [Nat.mul_add, Nat.add_assoc, Nat.mul_comm (128 ^ l.length) 128, Nat.mul_assoc]
theorem val_lt : ∀ (l : List Int), val l < 128 ^ l.length
  | [] => by simp [val]
  | c :: l => by
    have := val_lt l
    simp only [val, List.length_cons, Nat.pow_succ]
    omega
theorem pow7 (j : Nat) : 2 ^ (7 * j) = 128 ^ j := by rw [Nat.pow_mul]
theorem val_bits {x : Int} (hx : 0 ≤ x ∧ x ≤ 255) {j : Nat} (hj : j ≤ 9) (h9 : j = 9 → x ≤ 1) {V : Nat} (hV : V < 128 ^ j) :
    bits .or .u64 (V : Int) (IntKind.u64.wrap (IntKind.u64.wrap (bits .and .u8 x 127) * 2 ^ (7 * j))) = ((V + 128 ^ j * (x % 128).toNat : Nat) : Int) := by
  obtain ⟨y, rfl⟩ := Int.eq_ofNat_of_zero_le hx.1
  have h1 := (bits_nat .u8 8 (by decide) wraps_u8 y 127 (by omega) (by decide)).1
  rw [show ((127 : Nat) : Int) = 127 from rfl] at h1
  rw [h1, show (127 : Nat) = 2 ^ 7 - 1 from rfl, Nat.and_two_pow_sub_one_eq_mod, show (2 : Nat) ^ 7 = 128 from rfl]
  have hy : ((y : Int) % 128).toNat = y % 128 := by omega
  rw [hy]
  have hb : y % 128 * 128 ^ j < 18446744073709551616 := by
    by_cases h : j = 9
    · have := h9 h
      subst h
      have : y % 128 ≤ 1 := by omega
      exact Nat.lt_of_le_of_lt (Nat.mul_le_mul_right _ this) (by decide)
    · have : 128 ^ j ≤ 128 ^ 8 := Nat.pow_le_pow_right (by omega) (by omega)
      exact Nat.lt_of_le_of_lt (Nat.mul_le_mul (show y % 128 ≤ 127 by omega) this) (by decide)
  rw [show IntKind.u64.wrap ((y % 128 : Nat) : Int) = ((y % 128 : Nat) : Int) by rw [IntKind.wrap_u64]; omega]
  rw [show ((y % 128 : Nat) : Int) * 2 ^ (7 * j) = ((y % 128 * 128 ^ j : Nat) : Int) by rw [← pow7]; push_cast; rfl]
  rw [IntKind.wrap_u64, show ((y % 128 * 128 ^ j : Nat) : Int) % 18446744073709551616 = ((y % 128 * 128 ^ j : Nat) : Int) by omega]
  have hV2 : V < 18446744073709551616 := Nat.lt_of_lt_of_le hV (by
    have : 128 ^ j ≤ 128 ^ 9 := Nat.pow_le_pow_right (by omega) hj
    exact Nat.le_trans this (by decide))
  rw [bits_or_u64_nat _ _ hV2 hb]
  have ho : (y % 128) <<< (7 * j) + V = (y % 128) <<< (7 * j) ||| V := Nat.shiftLeft_add_eq_or_of_lt (by rw [pow7]; exact hV) _
  rw [Nat.shiftLeft_eq, pow7] at ho
  rw [Nat.or_comm, ← ho, Nat.add_comm, Nat.mul_comm]
/-- the number of which u is the code -/
def sgn (u : Nat) : Int := if u % 2 = 0 then (u / 2 : Nat) else -((u / 2 : Nat) : Int) - 1
end Octet

namespace Octet
theorem xor_neg1 {a : Int} (h0 : 0 ≤ a) (h1 : a ≤ 9223372036854775807) : bits .xor .i64 a (-1) = -a - 1 := by
  obtain ⟨n, rfl⟩ := Int.eq_ofNat_of_zero_le h0
  show IntKind.i64.wrap ((BitVec.ofInt 64 (n : Int) ^^^ BitVec.ofInt 64 (-1)).toNat : Int) = _
  have e1 : BitVec.ofInt 64 (-1) = BitVec.allOnes 64 := by decide
  rw [e1, BitVec.xor_allOnes, BitVec.toNat_not, BitVec.ofInt_natCast, BitVec.toNat_ofNat, Nat.mod_eq_of_lt (by omega)]
  simp only [IntKind.wrap_i64]
  omega
theorem sgn_bits {u : Nat} (h : u < 18446744073709551616) : bits .xor .i64 (wrap64 ((u : Int) / 2)) (wrap64 (-wrap64 (bits .and .u64 (u : Int) 1))) = sgn u := by
  have h1 := bits_and_u64_nat u 1 h (by decide)
  rw [show ((1 : Nat) : Int) = 1 from rfl, Nat.and_one_is_mod] at h1
  rw [h1]
  have e1 : wrap64 ((u : Int) / 2) = ((u / 2 : Nat) : Int) := by unfold wrap64; omega
  rw [e1]
  unfold sgn
  by_cases h2 : u % 2 = 0
  · rw [h2, if_pos rfl, show wrap64 (-wrap64 ((0 : Nat) : Int)) = 0 by unfold wrap64; omega]
    show IntKind.i64.wrap ((BitVec.ofInt 64 ((u / 2 : Nat) : Int) ^^^ BitVec.ofInt 64 0).toNat : Int) = _
    rw [show BitVec.ofInt 64 0 = 0#64 from rfl, BitVec.xor_zero, BitVec.ofInt_natCast, BitVec.toNat_ofNat, Nat.mod_eq_of_lt (by omega)]
    exact IntWalk.i64_in _ (by omega)
  · rw [if_neg h2, show u % 2 = 1 by omega, show wrap64 (-wrap64 ((1 : Nat) : Int)) = -1 by unfold wrap64; omega]
    exact xor_neg1 (by omega) (by omega)
theorem val_lt64 {l : List Int} (h1 : l.length ≤ 10) (h2 : l.length = 10 → l.getD 9 0 ≤ 1 ∧ 0 ≤ l.getD 9 0) : val l < 18446744073709551616 := by
  by_cases h : l.length = 10
  · obtain ⟨h3, h4⟩ := h2 h
    have e : l = l.take 9 ++ [l.getD 9 0] := by
      have := List.take_add_one (l := l) (i := 9)
      rw [List.take_of_length_le (by omega), List.getElem?_eq_getElem (by omega), Option.toList_some] at this
      rw [List.getD_eq_getElem?_getD, List.getElem?_eq_getElem (by omega)]
      exact this
    have h5 := val_lt (l.take 9)
    rw [List.length_take, show min 9 l.length = 9 by omega] at h5
    rw [e, val_snoc, List.length_take, show min 9 l.length = 9 by omega]
    have h6 : (l.getD 9 0 % 128).toNat ≤ 1 := by omega
    have h7 := Nat.mul_le_mul_left (128 ^ 9) h6
    have h8 : (128 : Nat) ^ 9 = 9223372036854775808 := by decide
    omega
  · have h5 := val_lt l
    have h6 : 128 ^ l.length ≤ 128 ^ 9 := Nat.pow_le_pow_right (by omega) (by omega)
    have h8 : (128 : Nat) ^ 9 = 9223372036854775808 := by decide
    omega
end Octet
theorem grown_set {w w' : World} {g : Nat} (h : w.grownBy w' (some g)) (j : Nat) (v : Value) : w.grownBy (w'.setCell ⟨g, j, none⟩ v) (some g) where
  os := h.os
  tape := h.tape
  output := h.output
  size := by simpa [World.setCell] using h.size
  block := fun k hk hne => by
    have h1 := h.block k hk hne
    have h2 : ¬ g = k := fun e => hne (by rw [e])
    simp [World.setCell, Array.getElem?_modify, h2, h1]
theorem grown_drew (w : World) (g n : Nat) : w.grownBy (w.drewN n) (some g) := ⟨rfl, rfl, rfl, Nat.le_refl _, fun _ _ _ => rfl⟩

set_option maxHeartbeats 1000000 in
theorem num_any (w : World) (g : Nat) (a : Option Addr) (cap : Nat) (bs : List Int) (p : Nat) (h : Rdr w g a bs.length cap p 0) (hN : NumsAt .u8 w a bs) (hne : ∀ ad : Addr, a = some ad → ad.block ≠ g) (hp : p ≤ bs.length) (hc : bs.length ≤ cap) (b1 : bs.length ≤ 10000) (hx : ∀ x ∈ bs, 0 ≤ x ∧ x ≤ 255) :
    Calls Try.prog 21 #[.pointer (some ⟨g, 0, none⟩)] w fun e w' => w.grownBy w' (some g) ∧
      ((Octet.err (bs.drop p) ≠ 0 ∧ e = .returned (.int .i64 0) ∧ Rdr w' g a bs.length cap p (Octet.err (bs.drop p))) ∨
       (Octet.err (bs.drop p) = 0 ∧ e = .returned (.int .i64 (Octet.sgn (Octet.val ((bs.drop p).take (Octet.lead (bs.drop p) + 1))))) ∧ Rdr w' g a bs.length cap (p + Octet.lead (bs.drop p) + 1 : Nat) 0)) := by
  have c0 := h.c0
  have c1 := h.c1
  have c2 := h.c2
  have f1 := h.free 1
  have f2 := h.free 2
  have NN := Lib.hid (none_any w g a bs.length cap p 0 h)
  have FF := Lib.hid (fun w h x y => fault_any w g a bs.length cap p 0 h x y)
  have hdl : (bs.drop p).length = bs.length - p := List.length_drop
  have hs1 := fun w => run_cut_l (P := Try.prog) Try.underlying25 Try.sizeByte a bs.length cap p (kl := .i64) (L := (p : Int)) rfl (by omega) w
  have CW := fun w' (h : NumsAt .u8 w' a bs) => wrong_any w' (cutA a cap p 1) (bs.drop p).length (cap - p) (bs.drop p) (h.cut hc) rfl (by omega) (by omega) (fun x h => hx x (List.mem_of_mem_drop h))
  rw [hdl] at CW
  have CW := Lib.hid CW
  generalize hE : Octet.err (bs.drop p) = er at CW ⊢
  generalize hL : Octet.lead (bs.drop p) = k at CW ⊢
  have HL := Lib.hid hL
  clear hL
  by_cases he : er = 0
  · subst he
    rw [if_pos rfl] at CW
    have hkl : k + 1 ≤ bs.length - p := by
      have h1 := Octet.lead_le (bs.drop p)
      rw [HL.out, hdl] at h1
      have h2 : k ≠ bs.length - p := fun e => by
        unfold Octet.err at hE
        rw [HL.out, hdl] at hE
        by_cases h10 : 10 ≤ k
        · rw [if_pos h10] at hE; cases hE
        · rw [if_neg h10, if_pos e] at hE; cases hE
      omega
    have hk9 : k ≤ 9 := by
      unfold Octet.err at hE
      rw [HL.out] at hE
      by_cases h10 : 10 ≤ k
      · rw [if_pos h10] at hE; cases hE
      · omega
    have hk9b : k = 9 → (bs.drop p).getD 9 0 ≤ 1 := fun e => by
      unfold Octet.err at hE
      rw [HL.out] at hE
      rw [if_neg (by omega), if_neg (by omega)] at hE
      rcases Int.lt_or_le 1 ((bs.drop p).getD 9 0) with h | h
      · rw [if_pos (.inl ⟨e, h⟩)] at hE; cases hE
      · exact h
    have hs2 := fun w => run_cut_lh (P := Try.prog) Try.underlying25 Try.sizeByte a bs.length cap p (p + (k + 1)) (kl := .i64) (kh := .i64) (L := (p : Int)) (H := (p : Int) + ((k : Int) + 1)) rfl (by omega) (by omega) (by omega) w
    have hw2 : IntKind.i64.wrap ((p : Int) + ((k : Int) + 1)) = (p : Int) + ((k : Int) + 1) := IntWalk.i64_in _ (by omega)
    go_enter Try.func21, Try.ntmps21
    go_wp2_with fail
    refine NN.out.mono ?_
    rintro e w9 ⟨rfl, rfl⟩
    go_wp2
    go_quiet ((go_at_call 34; exact Calls.quiet_of (CW.out _ (hN.drewN _))))
    go_wp2
    go_quiet (fail)
    have hcell : ∀ j, j < k + 1 → ∃ b off x, cutA a cap p 1 = some ⟨b, off, none⟩ ∧ w.cell? ⟨b, off + j, none⟩ = some (.int .u8 x) ∧ Hid (x = (bs.drop p).getD j 0) ∧ 0 ≤ x ∧ x ≤ 255 := fun j hj => by
      obtain ⟨b, off, x, e, cx, hxx⟩ := (hN.cut (l := p) hc).at j (by rw [hdl]; omega)
      refine ⟨b, off, x, e, cx, hxx, ?_⟩
      have hm : x ∈ bs.drop p := by rw [hxx.out, List.getD_eq_getElem?_getD, List.getElem?_eq_getElem (by rw [hdl]; omega)]; exact List.getElem_mem _
      exact hx x (List.mem_of_mem_drop hm)
    have HC := Lib.hid hcell
    clear hcell hs1 hs2 hx CW hw2
    go_wp2
    go_loopw [5, 56] (fun uv iv wr => ∃ j n : Nat, j ≤ k + 1 ∧ uv = .int .u64 (Octet.val ((bs.drop p).take j)) ∧ iv = .int .i64 j ∧ wr = w.drewN n) (fun _ iv _ => k + 1 - (intOf iv).toNat)
    case atStart => exact ⟨0, _, by omega, by simp [Octet.val], rfl, World.drewN_drewN _ _ _⟩
    case round =>
      obtain ⟨j, n, hj, rfl, rfl, rfl⟩ := hrel
      by_cases hlt : j < k + 1
      · obtain ⟨b, off, x, hcut, cx, hxx, hx0, hx1⟩ := HC.out j hlt
        have hlt' : (j : Int) < (k : Int) + 1 := by omega
        have hV : Octet.val ((bs.drop p).take j) < 128 ^ j := by
          have := Octet.val_lt ((bs.drop p).take j)
          rwa [List.length_take, hdl, show min j (bs.length - p) = j by omega] at this
        have hbit := Octet.val_bits ⟨hx0, hx1⟩ (show j ≤ 9 by omega) (fun e => by rw [hxx.out, e]; exact hk9b (by omega)) hV
        have hval : Hid (Octet.val ((bs.drop p).take (j + 1)) = Octet.val ((bs.drop p).take j) + 128 ^ j * (x % 128).toNat) := by
          show _ = _
          have hlt2 : j < (bs.drop p).length := by rw [hdl]; omega
          rw [List.take_add_one, List.getElem?_eq_getElem hlt2, Option.toList_some, Octet.val_snoc, List.length_take, hdl, show min j (bs.length - p) = j by omega, hxx.out, List.getD_eq_getElem?_getD, List.getElem?_eq_getElem hlt2]
          rfl
        rw [← hval.out] at hbit
        have HB := Lib.hid hbit
        clear hbit hval hV
        rw [hcut]
        go_wp2
        refine ⟨⟨j + 1, n, by omega, by rw [HB.out], by go_num, rfl⟩, by simp [intOf]; omega⟩
      · obtain rfl : j = k + 1 := by omega
        have hw2 : IntKind.i64.wrap ((p : Int) + ((k : Int) + 1)) = (p : Int) + ((k : Int) + 1) := IntWalk.i64_in _ (by omega)
        have hex : decide (((k : Int) + 1) < (k : Int) + 1) = false := by simp
        generalize hu : Octet.val ((bs.drop p).take (k + 1)) = u
        go_wp2
        go_ret
        have hul : u < 18446744073709551616 := by
          rw [← hu]
          refine Octet.val_lt64 (by rw [List.length_take]; omega) (fun e => ?_)
          rw [List.length_take, hdl] at e
          obtain ⟨b, off, x, _, _, hxx, hx0, _⟩ := HC.out 9 (by omega)
          have e9 : ((bs.drop p).take (k + 1)).getD 9 0 = (bs.drop p).getD 9 0 := by
            rw [List.getD_eq_getElem?_getD, List.getElem?_take, if_pos (by omega), ← List.getD_eq_getElem?_getD]
          rw [e9]
          exact ⟨hk9b (by omega), by rw [← hxx.out]; exact hx0⟩
        refine ⟨grown_set (grown_drew w g _) _ _, .inr ⟨trivial, by rw [hu, ← Octet.sgn_bits hul]; rfl, ?_⟩⟩
        have hR := ((h.drewN n).set1 ((p : Int) + ((k : Int) + 1)))
        rw [show (p : Int) + ((k : Int) + 1) = ((p + k + 1 : Nat) : Int) by omega] at hR ⊢
        exact hR
  · rw [if_neg he] at CW
    have he' : (er != 0) = true := by simpa using he
    clear hE
    go_enter Try.func21, Try.ntmps21
    go_wp2_with fail
    refine NN.out.mono ?_
    rintro e w9 ⟨rfl, rfl⟩
    go_wp2
    go_quiet ((go_at_call 34; exact Calls.quiet_of (CW.out _ (hN.drewN _))))
    go_wp2
    refine wp_region_still_tail 9 (by kernel_rfl) (by kernel_rfl) ?_
    simp only [List.take_succ_cons, List.take_zero, List.drop_succ_cons, List.drop_zero, World.drew_eq]
    repeat still_step
    refine wpStill_nil ?_
    go_wp2_with fail
    refine (FF.out _ (h.drewN (nq + 1)) _ _).mono ?_
    rintro e w2 ⟨rfl, rfl⟩
    go_wp2
    go_ret
    exact ⟨grown_set (grown_set (grown_drew w g _) _ _) _ _, .inl ⟨he, rfl, ((h.drewN (nq + 1)).set1 _).set2 _⟩⟩
end Go.Proofs.Ytpnkfhfaoomdpaa
