/- Decimals and numbers of texts, walked, beside the newer general library. Conditions: what the listed variables hold; short texts. -/
import Derived.Test.YtjacphcnanopjaaDoorLexD
import Derived.Test.YtjacphcnanopjaaDoorBase
import Derived.Test.YtjacphcnanopjaaDoorMem
import Derived.Lib.ConvBytes
import Derived.Laws.BytesArg
import Derived.Lib.SmallJoins
namespace Go.Proofs.YtjacphcnanopjaaDoor
open Go.RowKit
set_option linter.unusedVariables false

abbrev IntsAt (w : World) (a : Option Addr) (xs : List Int) : Prop := NumsAt .i64 w a xs
theorem IntsAt.at {w : World} {a : Option Addr} {xs : List Int} (h : IntsAt w a xs) (k : Nat) (hk : k < xs.length) :
    ∃ b off x, a = some ⟨b, off, none⟩ ∧ w.cell? ⟨b, off + k, none⟩ = some (.int .i64 x) ∧ Hid (x = xs.getD k 0) := NumsAt.at h k hk
theorem ints_new1 {w : World} {n T : Nat} (hn : n = w.heap.size) (x : Int) : IntsAt (w.alloc (.cells #[.int .i64 x] T)) (some ⟨n, 0, none⟩) [x] := nums_new hn _ _ rfl
def inB (xs : List Int) : Bool := decide (∀ i, i < xs.length → -1048576 ≤ xs.getD i 0 ∧ xs.getD i 0 ≤ 1048576)
theorem within_any (w : World) (a1 : Option Addr) (n1 c1 : Nat) (xs : List Int) (h1 : IntsAt w a1 xs) (hn1 : n1 = xs.length) (b1 : n1 ≤ 9223372036854775807) :
    Calls Tryd.prog 73 #[.slice a1 n1 c1] w fun e w' => e = .returned (.bool (inB xs)) ∧ w = w' := by
  subst hn1
  go_enter Tryd.func73, Tryd.ntmps73
  go_wp2
  go_loop [7] (fun i => ∃ k : Nat, k ≤ xs.length ∧ i = .int .i64 k ∧ Hid (∀ j, j < k → -1048576 ≤ xs.getD j 0 ∧ xs.getD j 0 ≤ 1048576)) (fun i => xs.length - (intOf i).toNat)
  case atStart => exact ⟨0, Nat.zero_le _, rfl, fun j hj => by omega⟩
  case round =>
    obtain ⟨k, hk, rfl, hall⟩ := hrel
    by_cases hlt : k < xs.length
    · obtain ⟨b, off, x, rfl, c1, hx⟩ := h1.at k hlt
      go_wp2
      all_goals first
        | (go_ret; exact ⟨ret_bool (decide_eq_false (fun h => by have := h k hlt; have := hx.out; omega)).symm, rfl⟩)
        | (go_round
           case rel =>
             refine ⟨k + 1, by omega, by go_num, fun j hj => ?_⟩
             by_cases hjk : j = k
             · subst hjk; rw [← hx.out]; omega
             · exact hall.out j (by omega)
           case measure => simp [intOf]; omega)
    · go_wp2
      go_ret
      exact ⟨ret_bool (decide_eq_true (fun i hi => hall.out i (by omega))).symm, rfl⟩
def fB (x : Int) : Prop := -1048576 ≤ x ∧ x ≤ 1048576
instance (x : Int) : Decidable (fB x) := inferInstanceAs (Decidable (_ ∧ _))
theorem rwithin_any (w : World) (n : Int) : Calls Tryd.prog 58 #[.int .i64 n] w fun e w' => e = .returned (.bool (decide (fB n))) ∧ w = w' := by
  by_cases h1 : -1048576 ≤ n
  · by_cases h2 : n ≤ 1048576
    · go_enter Tryd.func58, Tryd.ntmps58
      go_wp2
      go_ret
      exact ⟨ret_bool (decide_eq_true (show fB n from ⟨h1, h2⟩)).symm, rfl⟩
    · have h3 : decide (n ≤ 1048576) = false := by simpa using h2
      go_enter Tryd.func58, Tryd.ntmps58
      go_wp2
      go_ret
      exact ⟨ret_bool (decide_eq_false (fun h : fB n => by have := h.2; omega)).symm, rfl⟩
  · have h3 : decide (-1048576 ≤ n) = false := by simpa using h1
    go_enter Tryd.func58, Tryd.ntmps58
    go_wp2
    go_ret
    exact ⟨ret_bool (decide_eq_false (fun h : fB n => by have := h.1; omega)).symm, rfl⟩

theorem decimal_any (w : World) (hd : Door w) (n : Int) (h0 : -9223372036854775808 ≤ n) (h1 : n ≤ 9223372036854775807) :
    Calls Tryd.prog 53 #[.int .i64 n] w fun e w' => e = .returned (.string ⟨(Lib.itoa n).toArray⟩) ∧ Below w.heap.size w w' := by
  have C := Lib.hid (itoa_d n h0 h1 w hd)
  go_enter Tryd.func53, Tryd.ntmps53
  go_wp2_with fail
  refine C.out.mono ?_
  rintro e w' ⟨rfl, hb⟩
  go_wp2
  go_ret
  exact ⟨rfl, hb⟩
theorem str_eq (l : List UInt8) (s : ByteArray) : (⟨l.toArray⟩ : ByteArray) = s ↔ l = s.data.toList := by
  cases s with
  | mk d => 
    constructor
    · intro h
      injection h with h
      rw [← h]
    · intro h
      have h : l = d.toList := h
      rw [h]
theorem str_no {u s : ByteArray} (h : ¬ u = s) : (u.toList == s.toList) = false := by
  rw [beq_eq_false_iff_ne]
  intro e
  rw [ByteArray.toList_eq, ByteArray.toList_eq] at e
  apply h
  cases u; cases s
  congr 1
  exact Array.toList_inj.1 e
theorem inB_v (v : Int) : inB [v] = within6 v := by
  unfold inB within6
  congr 1
  apply propext
  constructor
  · intro h; exact h 0 (by simp)
  · intro h i hi
    match i, hi with
    | 0, _ => exact h
set_option maxHeartbeats 4000000 in
theorem number_any (w : World) (hd : Door w) (s : ByteArray) (hs : s.size ≤ 281474976710656) :
    Calls Tryd.prog 67 #[.string s] w fun e w' => e = .returned (.tuple #[.int .i64 (numP s.data.toList).1, .bool (numP s.data.toList).2]) ∧ Below w.heap.size w w' := by
  obtain ⟨r, hr⟩ : ∃ r, r = numP s.data.toList := ⟨_, rfl⟩
  rw [← hr]
  have NO : (∀ v, Lib.atoiAll s.data.toList ≠ .ok v) → r = (0, false) → Calls Tryd.prog 67 #[.string s] w fun e w' => e = .returned (.tuple #[.int .i64 r.1, .bool r.2]) ∧ Below w.heap.size w w' := fun hn hr => by
    subst hr
    have C := Lib.hid (atoi_no_d s hs hn w hd)
    clear hd
    go_enter Tryd.func67, Tryd.ntmps67
    go_wp2_with fail
    refine C.out.mono ?_
    rintro e w1 ⟨x, T, p, rfl, hb1⟩
    go_wp2
    go_ret2
    exact ⟨rfl, hb1⟩
  cases ha : Lib.atoiAll s.data.toList with
  | ok v =>
    have hv := Lib.atoiAll_bounds ha
    unfold numP at hr
    rw [ha] at hr
    replace hr : r = if within6 v = true ∧ Lib.itoa v = s.data.toList then (v, true) else (0, false) := hr
    have C := Lib.hid (atoi_ok_d s (by omega) v ha w)
    have D := Lib.hid (fun w' (hb : Below w.heap.size w w') => decimal_any w' (hd.below hb) v hv.1 hv.2)
    clear NO
    replace hd := Lib.hid hd
    replace hv := Lib.hid hv
    replace ha := Lib.hid ha
    have hin := Lib.hid (inB_v v)
    cases hw : within6 v with
    | false =>
      have hr2 : r = (0, false) := by rw [hr, hw]; rfl
      subst hr2
      rw [hw] at hin
      clear hr hw
      go_enter Tryd.func67, Tryd.ntmps67
      go_wp2_with fail
      refine C.out.mono ?_
      rintro e w1 ⟨rfl, hb1⟩
      go_wp2_with fail
      refine (within_any _ _ _ _ [v] (ints_new1 rfl v) rfl (by simp)).mono ?_
      rintro e w2 ⟨rfl, rfl⟩
      rw [hin.out]
      go_wp2
      go_ret2
      exact ⟨rfl, balloc hb1 _⟩
    | true =>
      rw [hw] at hin
      by_cases hq : Lib.itoa v = s.data.toList
      · have hr2 : r = (v, true) := by rw [hr, hw, if_pos ⟨rfl, hq⟩]
        subst hr2
        have hqe : (⟨(Lib.itoa v).toArray⟩ : ByteArray) = s := (str_eq _ _).2 hq
        rw [hqe] at D
        clear hr hw hq hqe
        go_enter Tryd.func67, Tryd.ntmps67
        go_wp2_with fail
        refine C.out.mono ?_
        rintro e w1 ⟨rfl, hb1⟩
        go_wp2_with fail
        refine (within_any _ _ _ _ [v] (ints_new1 rfl v) rfl (by simp)).mono ?_
        rintro e w2 ⟨rfl, rfl⟩
        rw [hin.out]
        go_wp2_with fail
        refine (D.out _ (balloc hb1 _)).mono ?_
        rintro e w3 ⟨rfl, hb3⟩
        go_wp2
        go_ret2
        exact ⟨rfl, btrans (balloc hb1 _) hb3⟩
      · have hr2 : r = (0, false) := by rw [hr, hw, if_neg (fun h => hq h.2)]
        subst hr2
        obtain ⟨u, hu⟩ : ∃ u : ByteArray, u = ⟨(Lib.itoa v).toArray⟩ := ⟨_, rfl⟩
        have hqe : ¬ u = s := fun h => hq ((str_eq _ _).1 (hu.symm.trans h))
        have hqb := str_no hqe
        rw [← hu] at D
        clear hr hw hq hu hqe
        go_enter Tryd.func67, Tryd.ntmps67
        go_wp2_with fail
        refine C.out.mono ?_
        rintro e w1 ⟨rfl, hb1⟩
        go_wp2_with fail
        refine (within_any _ _ _ _ [v] (ints_new1 rfl v) rfl (by simp)).mono ?_
        rintro e w2 ⟨rfl, rfl⟩
        rw [hin.out]
        go_wp2_with fail
        refine (D.out _ (balloc hb1 _)).mono ?_
        rintro e w3 ⟨rfl, hb3⟩
        go_wp2
        go_ret2
        exact ⟨rfl, btrans (balloc hb1 _) hb3⟩
  | «syntax» => exact NO (fun v h => by rw [ha] at h; cases h) (by rw [hr]; unfold numP; rw [ha])
  | range => exact NO (fun v h => by rw [ha] at h; cases h) (by rw [hr]; unfold numP; rw [ha])

/-- what holds at the head of the document's loop -/
def RDi (n kv : Int) (l : List UInt8) : Prop := (n < 0 → kv ≤ 0) ∧ (0 ≤ n → 0 ≤ kv) ∧ kv.natAbs ≤ n.natAbs ∧ ((kv = 0 ∧ n = 0 ∧ l = []) ∨ (kv = 0 ∧ n ≠ 0 ∧ l = Lib.decDigits n.natAbs) ∨ (kv ≠ 0 ∧ Lib.decDigits n.natAbs = Lib.decDigits kv.natAbs ++ l))
theorem RDi.start (n : Int) : RDi n n [] := by
  refine ⟨fun h => by omega, fun h => h, Nat.le_refl _, ?_⟩
  by_cases h : n = 0
  · exact .inl ⟨h, h, rfl⟩
  · exact .inr (.inr ⟨h, (List.append_nil _).symm⟩)
theorem tdiv10 (kv : Int) : (kv.tdiv 10).natAbs = kv.natAbs / 10 ∧ (kv ≤ 0 → kv.tdiv 10 ≤ 0) ∧ (0 ≤ kv → 0 ≤ kv.tdiv 10) ∧ (0 ≤ kv → kv.tmod 10 = (kv.natAbs % 10 : Nat)) ∧ (kv ≤ 0 → kv.tmod 10 = -((kv.natAbs % 10 : Nat) : Int)) := by
  rcases Int.natAbs_eq kv with h | h
  · generalize kv.natAbs = q at h
    subst h
    have e1 : ((q : Int)).tdiv 10 = ((q / 10 : Nat) : Int) := rfl
    have e2 : ((q : Int)).tmod 10 = ((q % 10 : Nat) : Int) := rfl
    rw [e1, e2]
    refine ⟨rfl, fun h => ?_, fun _ => by omega, fun _ => rfl, fun h => ?_⟩ <;> omega
  · generalize kv.natAbs = q at h
    subst h
    have e1 : (-(q : Int)).tdiv 10 = -((q / 10 : Nat) : Int) := by rw [Int.neg_tdiv]; rfl
    have e2 : (-(q : Int)).tmod 10 = -((q % 10 : Nat) : Int) := by rw [Int.neg_tmod]; rfl
    rw [e1, e2]
    refine ⟨?_, fun _ => by omega, fun h => ?_, fun h => ?_, fun _ => rfl⟩ <;> omega
theorem RDi.step {n kv : Int} {l : List UInt8} (h : RDi n kv l) (h0 : kv ≠ 0) : RDi n (kv.tdiv 10) (UInt8.ofNat (48 + kv.natAbs % 10) :: l) := by
  obtain ⟨a, b, c, d⟩ := h
  obtain ⟨t1, t2, t3, _, _⟩ := tdiv10 kv
  refine ⟨fun hn => t2 (a hn), fun hn => t3 (b hn), by omega, ?_⟩
  rcases d with ⟨d, _⟩ | ⟨d, _⟩ | ⟨_, d⟩
  · exact absurd d h0
  · exact absurd d h0
  · by_cases hq : kv.natAbs < 10
    · refine .inr (.inl ⟨by omega, by omega, ?_⟩)
      rw [d, Lib.decDigits, dif_pos hq, Nat.mod_eq_of_lt hq]
      rfl
    · refine .inr (.inr ⟨by omega, ?_⟩)
      rw [d, Lib.decDigits, dif_neg hq, t1, List.append_assoc]
      rfl
theorem RDi.fin {n : Int} {l : List UInt8} (h : RDi n 0 l) (h0 : n ≠ 0) : l = Lib.decDigits n.natAbs := by
  rcases h.2.2.2 with ⟨_, d, _⟩ | ⟨_, _, d⟩ | ⟨d, _⟩
  · exact absurd d h0
  · exact d
  · exact absurd rfl d
theorem nDig_20 (u : Nat) (h : u ≤ 9223372036854775808) : Lib.nDigits u ≤ 20 := nDig_mono u 19 (by omega)
theorem RDi.len {n kv : Int} {l : List UInt8} (h : RDi n kv l) (hn : n.natAbs ≤ 9223372036854775808) : l.length ≤ 20 := by
  have hd := nDig_20 _ hn
  rw [← Lib.decDigits_length] at hd
  rcases h.2.2.2 with ⟨_, _, d⟩ | ⟨_, _, d⟩ | ⟨_, d⟩
  · rw [d]; decide
  · rw [d]; exact hd
  · rw [d, List.length_append] at hd; omega
theorem str_cons (x : UInt8) (l : List UInt8) : (⟨#[x]⟩ : ByteArray) ++ ⟨l.toArray⟩ = ⟨(x :: l).toArray⟩ := by
  have h := Joins.data_append ⟨#[x]⟩ ⟨l.toArray⟩
  generalize (⟨#[x]⟩ : ByteArray) ++ ⟨l.toArray⟩ = s at h
  cases s with
  | mk d =>
    congr 1
    apply Array.toList_inj.1
    rw [h]
    rfl
set_option maxRecDepth 5000 in
set_option maxHeartbeats 4000000 in
theorem rdecimal_any (w : World) (n : Int) (h0 : -9223372036854775808 ≤ n) (h1 : n ≤ 9223372036854775807) :
    Calls Tryd.prog 38 #[.int .i64 n] w fun e w' => e = .returned (.string ⟨(Lib.itoa n).toArray⟩) ∧ Below w.heap.size w w' := by
  have hn0 := Lib.hid h0
  have hn1 := Lib.hid h1
  have ST := Lib.hid (RDi.start n)
  clear h0 h1
  obtain ⟨out, hout⟩ : ∃ out : ByteArray, out = ⟨(Lib.itoa n).toArray⟩ := ⟨_, rfl⟩
  rw [← hout]
  replace hout := Lib.hid hout
  go_enter Tryd.func38, Tryd.ntmps38
  go_wp2
  go_loopw [3, 4] (fun sv iv wr => ∃ (kv : Int) (l : List UInt8), sv = .string ⟨l.toArray⟩ ∧ iv = .int .i64 kv ∧ Hid (RDi n kv l) ∧ Hid (Below w.heap.size w wr)) (fun _ iv _ => (intOf iv).natAbs)
  case atStart => exact ⟨n, [], rfl, rfl, ST, Below.refl _ _⟩
  case round =>
    obtain ⟨kv, l, rfl, rfl, rd, hb⟩ := hrel
    clear ST
    have hl1 : Hid (l.length ≤ 20) := rd.out.len (by have := hn0.out; have := hn1.out; omega)
    by_cases hk : kv = 0
    · subst hk
      have hfin : ∀ h : n ≠ 0, l = Lib.decDigits n.natAbs := fun h => rd.out.fin h
      by_cases hn : n = 0
      · subst hn
        have hz : (⟨(Lib.itoa 0).toArray⟩ : ByteArray) = ⟨#[48]⟩ := by unfold Lib.itoa Lib.decDigits; rfl
        replace hz := Lib.hid hz
        clear hfin
        go_wp2
        go_ret
        exact ⟨by rw [hout.out, hz.out]; rfl, hb.out⟩
      · have hl := hfin hn
        have hnb : (n == 0) = false := by simpa using hn
        by_cases hs : n < 0
        · have hz : (⟨(Lib.itoa n).toArray⟩ : ByteArray) = ⟨#[45]⟩ ++ ⟨l.toArray⟩ := by
            unfold Lib.itoa
            rw [if_pos hs, hl]
            exact (str_cons 45 _).symm
          replace hz := Lib.hid hz
          clear hfin hl hn
          go_wp2
          all_goals first
            | (exfalso; have := hl1.out; omega)
            | (go_ret; exact ⟨by rw [hout.out, hz.out]; rfl, hb.out⟩)
        · have hz : Lib.itoa n = l := by
            unfold Lib.itoa
            rw [if_neg hs, hl]
            congr 1
            omega
          replace hz := Lib.hid hz
          clear hfin hl hn
          go_wp2
          all_goals first
            | (exfalso; have := hl1.out; omega)
            | (go_ret; exact ⟨by rw [hout.out, hz.out]; rfl, hb.out⟩)
    · have RN := Lib.hid (rd.out.step hk)
      obtain ⟨t1, t2, t3, t4, t5⟩ := tdiv10 kv
      obtain ⟨r, hr⟩ : ∃ r, r = kv.natAbs % 10 := ⟨_, rfl⟩
      have hr10 : r < 10 := by rw [hr]; exact Nat.mod_lt _ (by decide)
      rw [← hr] at RN t4 t5
      obtain ⟨x, hx⟩ : ∃ x, x = UInt8.ofNat (48 + r) := ⟨_, rfl⟩
      rw [← hx] at RN
      have hbound : -9223372036854775808 ≤ kv ∧ kv ≤ 9223372036854775807 := by
        obtain ⟨a, b, c, _⟩ := rd.out
        have := hn0.out; have := hn1.out
        omega
      have hq : wrap64 (kv.tdiv 10) = kv.tdiv 10 := by unfold wrap64; omega
      have hme : (kv.tdiv 10).natAbs < kv.natAbs := by omega
      have hcv : ∀ c : Int, c = 48 + r → (convert 62 9 (.slice (some ⟨wr.heap.size, 0, none⟩) 1 1)).run Tryd.prog (wr.alloc (.cells #[.int .u8 c] 5)) = .ok (.string ⟨#[x]⟩) (wr.alloc (.cells #[.int .u8 c] 5)) := fun c hc => by
        have := run_convert_bytes_arg (P := Tryd.prog) (wr.alloc (.cells #[.int .u8 c] 5)) 62 5 Tryd.underlying62 Tryd.underlying5 wr.heap.size 0 1 1 [c] rfl (fun i hi => by
          obtain rfl : i = 0 := by omega
          simp) 9 Tryd.underlying9
        rw [this, hc, hx]
        rfl
      have hcat : (⟨#[x]⟩ : ByteArray) ++ ⟨l.toArray⟩ = ⟨(x :: l).toArray⟩ := str_cons _ _
      have hb' := Lib.hid (balloc hb.out (.cells #[.int .u8 (48 + r : Int)] 5))
      clear hr t1 t2 t3 rd
      replace hx := Lib.hid hx
      replace hcat := Lib.hid hcat
      replace hq := Lib.hid hq
      replace hme := Lib.hid hme
      replace hbound := Lib.hid hbound
      obtain ⟨m, hm⟩ : ∃ m, kv.tmod 10 = m := ⟨_, rfl⟩
      have hkb : (kv == 0) = false := by simpa using hk
      by_cases hr0 : m < 0
      · have hmr : m = -(r : Int) := by
          by_cases hs : kv < 0
          · rw [← hm]; exact t5 (by omega)
          · have := t4 (by omega); omega
        have hm9 : -9 ≤ m := by omega
        have cv := hcv (48 + -m) (by omega)
        replace hmr := Lib.hid hmr
        clear hcv t4 t5 hr10 hk
        go_wp2
        all_goals first
          | (exfalso; have := hl1.out; omega)
          | (go_roundw
             case rel => exact ⟨kv.tdiv 10, x :: l, by rw [hcat.out], by rw [hq.out], RN, by rw [show 48 + -m = (48 + r : Int) by have := hmr.out; omega]; exact hb'.out⟩
             case measure => rw [hq.out]; exact hme.out)
      · have hmr : m = (r : Int) := by
          by_cases hs : kv < 0
          · have := t5 (by omega); omega
          · rw [← hm]; exact t4 (by omega)
        have hm9 : m ≤ 9 := by omega
        have hm0 : 0 ≤ m := by omega
        have cv := hcv (48 + m) (by omega)
        replace hmr := Lib.hid hmr
        clear hcv t4 t5 hr10 hk hr0
        go_wp2
        all_goals first
          | (exfalso; have := hl1.out; omega)
          | (go_roundw
             case rel => exact ⟨kv.tdiv 10, x :: l, by rw [hcat.out], by rw [hq.out], RN, by rw [show 48 + m = (48 + r : Int) by have := hmr.out; omega]; exact hb'.out⟩
             case measure => rw [hq.out]; exact hme.out)

def RNi (L : List UInt8) (i a b : Nat) : Prop := scanP (L.take i) (0, 0) = (a, b) ∧ b ≤ 8 ∧ a < 10 ^ b
theorem RNi.start (L : List UInt8) : RNi L 0 0 0 := ⟨rfl, by decide, by decide⟩
theorem RNi.snoc {L : List UInt8} {i a b : Nat} (h : RNi L i a b) (hi : i < L.length) : scanP (L.take (i + 1)) (0, 0) = scanP [L[i]] (a, b) := by
  rw [List.take_succ_eq_append_getElem hi, scan_append, h.1]
theorem RNi.go {L : List UInt8} {i a b : Nat} (h : RNi L i a b) (hi : i < L.length) {c : UInt8} (hc : c = L[i]) (h1 : 48 ≤ c.toNat) (h2 : c.toNat ≤ 57) (h3 : b < 8) : RNi L (i + 1) (a * 10 + (c.toNat - 48)) (b + 1) := by
  refine ⟨?_, by omega, ?_⟩
  · rw [h.snoc hi, ← hc]
    simp only [scanP]
    rw [if_pos ⟨h1, h2, h3⟩]
  · have := h.2.2
    rw [Nat.pow_succ]
    omega
theorem RNi.pass {L : List UInt8} {i a b : Nat} (h : RNi L i a b) (hi : i < L.length) {c : UInt8} (hc : c = L[i]) (h1 : ¬ (48 ≤ c.toNat ∧ c.toNat ≤ 57 ∧ b < 8)) : RNi L (i + 1) a b := by
  refine ⟨?_, h.2.1, h.2.2⟩
  rw [h.snoc hi, ← hc]
  simp only [scanP]
  rw [if_neg h1]
theorem data_at (s : ByteArray) (i : Nat) (h : i < s.size) (h' : i < s.data.toList.length) : s[i] = s.data.toList[i] := by
  cases s
  simp [ByteArray.getElem_eq_getElem_data]
theorem pow8 {a b : Nat} (h : a < 10 ^ b) (hb : b ≤ 8) : a < 100000000 := Nat.lt_of_lt_of_le h (Nat.pow_le_pow_right (by decide) hb)
theorem signP_neg {s : ByteArray} (h : 0 < s.size) (h1 : s[0].toNat = 45) (n : Nat) : signP s.data.toList n = -(n : Int) := by
  have hl : 0 < s.data.toList.length := by rw [Array.length_toList]; exact h
  rw [data_at s 0 h hl] at h1
  unfold signP
  cases hd : s.data.toList with
  | nil => rw [hd] at hl; cases hl
  | cons c r =>
    simp only [hd, List.getElem_cons_zero] at h1
    rw [if_pos (by rw [List.head?_cons]; congr 1; exact UInt8.toNat_inj.1 h1)]
theorem signP_pos {s : ByteArray} (h : ∀ h : 0 < s.size, ¬ s[0].toNat = 45) (n : Nat) : signP s.data.toList n = (n : Int) := by
  unfold signP
  cases hd : s.data.toList with
  | nil => rfl
  | cons c r =>
    have hl : 0 < s.data.toList.length := by rw [hd]; exact Nat.zero_lt_succ _
    have h0 : 0 < s.size := by rw [Array.length_toList] at hl; exact hl
    have h1 := h h0
    rw [data_at s 0 h0 hl] at h1
    simp only [hd, List.getElem_cons_zero] at h1
    rw [if_neg (by rw [List.head?_cons]; intro e; injection e with e; rw [e] at h1; exact h1 rfl)]
set_option maxHeartbeats 4000000 in
theorem rnumber_any (w : World) (s : ByteArray) (hs : s.size ≤ 281474976710656) :
    Calls Tryd.prog 49 #[.string s] w fun e w' => e = .returned (.tuple #[.int .i64 (rnumP s.data.toList).1, .bool (rnumP s.data.toList).2]) ∧ Below w.heap.size w w' := by
  obtain ⟨r, hr⟩ : ∃ r, r = rnumP s.data.toList := ⟨_, rfl⟩
  rw [← hr]
  replace hr := Lib.hid hr
  have ST := Lib.hid (RNi.start s.data.toList)
  go_enter Tryd.func49, Tryd.ntmps49
  go_wp2
  go_loop [4, 5, 6] (fun av bv iv => ∃ (i a b : Nat) (ai : Int), av = .int .i64 ai ∧ bv = .int .i64 (b : Int) ∧ iv = .int .i64 (i : Int) ∧ i ≤ s.size ∧ Hid (ai = (a : Int)) ∧ Hid (RNi s.data.toList i a b)) (fun _ _ iv => s.size - (intOf iv).toNat)
  case atStart => exact ⟨0, 0, 0, 0, rfl, rfl, rfl, Nat.zero_le _, rfl, ST⟩
  case round =>
    obtain ⟨i, a, b, ai, rfl, rfl, rfl, hi, hai, rn⟩ := hrel
    clear ST
    by_cases hil : i < s.size
    · have hiI : (i : Int) < (s.size : Int) := by omega
      have hlL : i < s.data.toList.length := by rw [Array.length_toList]; exact hil
      have hat := Lib.hid (data_at s i hil hlL)
      have ha0 : 0 ≤ ai := by rw [hai.out]; omega
      have ha8 : ai ≤ 99999999 := by have := pow8 rn.out.2.2 rn.out.2.1; rw [hai.out]; omega
      replace hlL := Lib.hid hlL
      go_wp2
      all_goals first
        | exact ⟨⟨i + 1, a * 10 + (s[i].toNat - 48), b + 1, _, rfl, rfl, rfl, by omega, by show _ = _; have := hai.out; omega, rn.out.go hlL.out hat.out (by omega) (by omega) (by omega)⟩, by simp [intOf]; omega⟩
        | exact ⟨⟨i + 1, a, b, _, rfl, rfl, rfl, by omega, hai, rn.out.pass hlL.out hat.out (fun h => by omega)⟩, by simp [intOf]; omega⟩
    · obtain rfl : i = s.size := by omega
      have hfin : Hid (scanP s.data.toList (0, 0) = (a, b) ∧ b ≤ 8 ∧ a < 100000000) := by
        obtain ⟨h1, h2, h3⟩ := rn.out
        rw [List.take_of_length_le (by rw [Array.length_toList]; exact Nat.le_refl _)] at h1
        exact ⟨h1, h2, pow8 h3 h2⟩
      clear rn
      have ha0 : 0 ≤ ai := by rw [hai.out]; omega
      have ha8 : ai ≤ 99999999 := by have := hfin.out.2.2; rw [hai.out]; omega
      have hiI : ¬ (s.size : Int) < (s.size : Int) := by omega
      have HR : Hid (∀ v, signP s.data.toList a = v → r = if b ≤ 7 ∧ within6 v = true ∧ Lib.itoa v = s.data.toList then (v, true) else (0, false)) := fun v hv => by
        have h := hr.out
        unfold rnumP at h
        rw [hfin.out.1] at h
        simp only [hv] at h
        exact h
      clear hil hi
      by_cases hneg : ∃ h : 0 < s.size, s[0].toNat = 45
      · obtain ⟨h0, h45⟩ := hneg
        have h0I : (0 : Int) < (s.size : Int) := by omega
        have hsg := signP_neg h0 h45 a
        rw [← hai.out] at hsg
        have hr2 := HR.out _ hsg
        have h45I : ((s[0].toNat : Int) == 45) = true := by rw [h45]; rfl
        clear hsg HR hr
        have hV0 : -99999999 ≤ (-ai) := by omega
        have hV1 : (-ai) ≤ 99999999 := by omega
        have D := Lib.hid (fun w => rdecimal_any w (-ai) (by omega) (by omega))
        by_cases hb7 : b ≤ 7
        · have hb7I : ¬ (7 : Int) < (b : Int) := by omega
          cases hw : within6 (-ai) with
          | false =>
            have hr3 : r = (0, false) := by rw [hr2, hw, if_neg (fun h => by cases h.2.1)]
            subst hr3
            have hfb : decide (fB (-ai)) = false := by rw [← hw]; rfl
            replace hfb := Lib.hid hfb
            clear hr2 hw
            go_wp2_with fail
            refine (rwithin_any _ (-ai)).mono ?_
            rintro e w1 ⟨rfl, rfl⟩
            rw [hfb.out]
            go_wp2
            go_ret2
            exact ⟨rfl, Below.refl _ _⟩
          | true =>
            have hfb : decide (fB (-ai)) = true := by rw [← hw]; rfl
            replace hfb := Lib.hid hfb
            by_cases hq : Lib.itoa (-ai) = s.data.toList
            · have hr3 : r = ((-ai), true) := by rw [hr2, hw, if_pos ⟨hb7, rfl, hq⟩]
              subst hr3
              have hqe : (⟨(Lib.itoa (-ai)).toArray⟩ : ByteArray) = s := (str_eq _ _).2 hq
              rw [hqe] at D
              clear hr2 hw hq hqe
              go_wp2_with fail
              refine (rwithin_any _ (-ai)).mono ?_
              rintro e w1 ⟨rfl, rfl⟩
              rw [hfb.out]
              go_wp2_with fail
              refine (D.out _).mono ?_
              rintro e w2 ⟨rfl, hb2⟩
              go_wp2
              go_ret2
              exact ⟨rfl, hb2⟩
            · have hr3 : r = (0, false) := by rw [hr2, if_neg (fun h => hq h.2.2)]
              subst hr3
              obtain ⟨u, hu⟩ : ∃ u : ByteArray, u = ⟨(Lib.itoa (-ai)).toArray⟩ := ⟨_, rfl⟩
              have hqb := str_no (fun h => hq ((str_eq _ _).1 (hu.symm.trans h)))
              rw [← hu] at D
              clear hr2 hw hq hu
              go_wp2_with fail
              refine (rwithin_any _ (-ai)).mono ?_
              rintro e w1 ⟨rfl, rfl⟩
              rw [hfb.out]
              go_wp2_with fail
              refine (D.out _).mono ?_
              rintro e w2 ⟨rfl, hb2⟩
              go_wp2
              go_ret2
              exact ⟨rfl, hb2⟩
        · have hb7I : (7 : Int) < (b : Int) := by omega
          have hr3 : r = (0, false) := by rw [hr2, if_neg (fun h => hb7 h.1)]
          subst hr3
          clear hr2
          go_wp2
          go_ret2
          exact ⟨rfl, Below.refl _ _⟩
      · have hsg := signP_pos (fun h e => hneg ⟨h, e⟩) a
        rw [← hai.out] at hsg
        have hr2 := HR.out _ hsg
        by_cases h0 : 0 < s.size
        · have h0I : (0 : Int) < (s.size : Int) := by omega
          have h45 : ¬ s[0].toNat = 45 := fun e => hneg ⟨h0, e⟩
          have h45I : ((s[0].toNat : Int) == 45) = false := by rw [beq_eq_false_iff_ne]; omega
          clear hneg
          clear hsg HR hr
          have hV0 : -99999999 ≤ ai := by omega
          have hV1 : ai ≤ 99999999 := by omega
          have D := Lib.hid (fun w => rdecimal_any w ai (by omega) (by omega))
          by_cases hb7 : b ≤ 7
          · have hb7I : ¬ (7 : Int) < (b : Int) := by omega
            cases hw : within6 ai with
            | false =>
              have hr3 : r = (0, false) := by rw [hr2, hw, if_neg (fun h => by cases h.2.1)]
              subst hr3
              have hfb : decide (fB ai) = false := by rw [← hw]; rfl
              replace hfb := Lib.hid hfb
              clear hr2 hw
              go_wp2_with fail
              refine (rwithin_any _ ai).mono ?_
              rintro e w1 ⟨rfl, rfl⟩
              rw [hfb.out]
              go_wp2
              go_ret2
              exact ⟨rfl, Below.refl _ _⟩
            | true =>
              have hfb : decide (fB ai) = true := by rw [← hw]; rfl
              replace hfb := Lib.hid hfb
              by_cases hq : Lib.itoa ai = s.data.toList
              · have hr3 : r = (ai, true) := by rw [hr2, hw, if_pos ⟨hb7, rfl, hq⟩]
                subst hr3
                have hqe : (⟨(Lib.itoa ai).toArray⟩ : ByteArray) = s := (str_eq _ _).2 hq
                rw [hqe] at D
                clear hr2 hw hq hqe
                go_wp2_with fail
                refine (rwithin_any _ ai).mono ?_
                rintro e w1 ⟨rfl, rfl⟩
                rw [hfb.out]
                go_wp2_with fail
                refine (D.out _).mono ?_
                rintro e w2 ⟨rfl, hb2⟩
                go_wp2
                go_ret2
                exact ⟨rfl, hb2⟩
              · have hr3 : r = (0, false) := by rw [hr2, if_neg (fun h => hq h.2.2)]
                subst hr3
                obtain ⟨u, hu⟩ : ∃ u : ByteArray, u = ⟨(Lib.itoa ai).toArray⟩ := ⟨_, rfl⟩
                have hqb := str_no (fun h => hq ((str_eq _ _).1 (hu.symm.trans h)))
                rw [← hu] at D
                clear hr2 hw hq hu
                go_wp2_with fail
                refine (rwithin_any _ ai).mono ?_
                rintro e w1 ⟨rfl, rfl⟩
                rw [hfb.out]
                go_wp2_with fail
                refine (D.out _).mono ?_
                rintro e w2 ⟨rfl, hb2⟩
                go_wp2
                go_ret2
                exact ⟨rfl, hb2⟩
          · have hb7I : (7 : Int) < (b : Int) := by omega
            have hr3 : r = (0, false) := by rw [hr2, if_neg (fun h => hb7 h.1)]
            subst hr3
            clear hr2
            go_wp2
            go_ret2
            exact ⟨rfl, Below.refl _ _⟩
        · have h0I : ¬ (0 : Int) < (s.size : Int) := by omega
          clear hneg
          clear hsg HR hr
          have hV0 : -99999999 ≤ ai := by omega
          have hV1 : ai ≤ 99999999 := by omega
          have D := Lib.hid (fun w => rdecimal_any w ai (by omega) (by omega))
          by_cases hb7 : b ≤ 7
          · have hb7I : ¬ (7 : Int) < (b : Int) := by omega
            cases hw : within6 ai with
            | false =>
              have hr3 : r = (0, false) := by rw [hr2, hw, if_neg (fun h => by cases h.2.1)]
              subst hr3
              have hfb : decide (fB ai) = false := by rw [← hw]; rfl
              replace hfb := Lib.hid hfb
              clear hr2 hw
              go_wp2_with fail
              refine (rwithin_any _ ai).mono ?_
              rintro e w1 ⟨rfl, rfl⟩
              rw [hfb.out]
              go_wp2
              go_ret2
              exact ⟨rfl, Below.refl _ _⟩
            | true =>
              have hfb : decide (fB ai) = true := by rw [← hw]; rfl
              replace hfb := Lib.hid hfb
              by_cases hq : Lib.itoa ai = s.data.toList
              · have hr3 : r = (ai, true) := by rw [hr2, hw, if_pos ⟨hb7, rfl, hq⟩]
                subst hr3
                have hqe : (⟨(Lib.itoa ai).toArray⟩ : ByteArray) = s := (str_eq _ _).2 hq
                rw [hqe] at D
                clear hr2 hw hq hqe
                go_wp2_with fail
                refine (rwithin_any _ ai).mono ?_
                rintro e w1 ⟨rfl, rfl⟩
                rw [hfb.out]
                go_wp2_with fail
                refine (D.out _).mono ?_
                rintro e w2 ⟨rfl, hb2⟩
                go_wp2
                go_ret2
                exact ⟨rfl, hb2⟩
              · have hr3 : r = (0, false) := by rw [hr2, if_neg (fun h => hq h.2.2)]
                subst hr3
                obtain ⟨u, hu⟩ : ∃ u : ByteArray, u = ⟨(Lib.itoa ai).toArray⟩ := ⟨_, rfl⟩
                have hqb := str_no (fun h => hq ((str_eq _ _).1 (hu.symm.trans h)))
                rw [← hu] at D
                clear hr2 hw hq hu
                go_wp2_with fail
                refine (rwithin_any _ ai).mono ?_
                rintro e w1 ⟨rfl, rfl⟩
                rw [hfb.out]
                go_wp2_with fail
                refine (D.out _).mono ?_
                rintro e w2 ⟨rfl, hb2⟩
                go_wp2
                go_ret2
                exact ⟨rfl, hb2⟩
          · have hb7I : (7 : Int) < (b : Int) := by omega
            have hr3 : r = (0, false) := by rw [hr2, if_neg (fun h => hb7 h.1)]
            subst hr3
            clear hr2
            go_wp2
            go_ret2
            exact ⟨rfl, Below.refl _ _⟩
theorem itoa_len (n : Int) (h0 : -9223372036854775808 ≤ n) (h1 : n ≤ 9223372036854775807) : (⟨(Lib.itoa n).toArray⟩ : ByteArray).size ≤ 21 := by
  show (Lib.itoa n).toArray.size ≤ 21
  rw [List.size_toArray]
  unfold Lib.itoa
  split
  · rw [List.length_cons, Lib.decDigits_length]
    have := nDig_20 n.natAbs (by omega)
    omega
  · rw [Lib.decDigits_length]
    have := nDig_20 n.toNat (by omega)
    omega
end Go.Proofs.YtjacphcnanopjaaDoor
