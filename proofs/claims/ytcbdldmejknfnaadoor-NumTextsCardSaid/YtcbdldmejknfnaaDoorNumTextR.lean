/- The document's decimal, walked. No conditions but that the number is of Go's int. -/
import Derived.Test.YtcbdldmejknfnaaDoorNumTextW
import Derived.Lib.ConvBytes
import Derived.Laws.BytesArg
import Derived.Lib.SmallJoins
namespace Go.Proofs.YtcbdldmejknfnaaDoor
open Go.RowKit
set_option linter.unusedVariables false

/-- what holds at the head of the document's loop -/
def RDi (n kv : Int) (l : List UInt8) : Prop := (n < 0 → kv ≤ 0) ∧ (0 ≤ n → 0 ≤ kv) ∧ kv.natAbs ≤ n.natAbs ∧ ((kv = 0 ∧ n = 0 ∧ l = []) ∨ (kv = 0 ∧ n ≠ 0 ∧ l = Lib.decDigits n.natAbs) ∨ (kv ≠ 0 ∧ Lib.decDigits n.natAbs = Lib.decDigits kv.natAbs ++ l))
theorem RDi.start (n : Int) : RDi n n [] := by
  refine ⟨fun h => by omega, fun h => h, Nat.le_refl _, ?_⟩
  by_cases h : n = 0
  · exact .inl ⟨h, h, rfl⟩
  · exact .inr (.inr ⟨h, (List.append_nil _).symm⟩)
theorem tdiv10 (kv : Int) : (kv.tdiv 10).natAbs = kv.natAbs / 10 ∧ (kv ≤ 0 → kv.tdiv 10 ≤ 0) ∧ (0 ≤ kv → 0 ≤ kv.tdiv 10) ∧ (0 ≤ kv → kv.tmod 10 = (kv.natAbs % 10 : Nat)) ∧ (kv ≤ 0 → kv.tmod 10 = -((kv.natAbs % 10 : Nat) : Int)) := by
  rcases Int.natAbs_eq kv with h | h
  · generalize kv.natAbs = q at h
    subst h
    have e1 : ((q : Int)).tdiv 10 = ((q / 10 : Nat) : Int) := rfl
    have e2 : ((q : Int)).tmod 10 = ((q % 10 : Nat) : Int) := rfl
    rw [e1, e2]
    refine ⟨rfl, fun h => ?_, fun _ => by omega, fun _ => rfl, fun h => ?_⟩ <;> omega
  · generalize kv.natAbs = q at h
    subst h
    have e1 : (-(q : Int)).tdiv 10 = -((q / 10 : Nat) : Int) := by rw [Int.neg_tdiv]; rfl
    have e2 : (-(q : Int)).tmod 10 = -((q % 10 : Nat) : Int) := by rw [Int.neg_tmod]; rfl
    rw [e1, e2]
    refine ⟨?_, fun _ => by omega, fun h => ?_, fun h => ?_, fun _ => rfl⟩ <;> omega
theorem RDi.step {n kv : Int} {l : List UInt8} (h : RDi n kv l) (h0 : kv ≠ 0) : RDi n (kv.tdiv 10) (UInt8.ofNat (48 + kv.natAbs % 10) :: l) := by
  obtain ⟨a, b, c, d⟩ := h
  obtain ⟨t1, t2, t3, _, _⟩ := tdiv10 kv
  refine ⟨fun hn => t2 (a hn), fun hn => t3 (b hn), by omega, ?_⟩
  rcases d with ⟨d, _⟩ | ⟨d, _⟩ | ⟨_, d⟩
  · exact absurd d h0
  · exact absurd d h0
  · by_cases hq : kv.natAbs < 10
    · refine .inr (.inl ⟨by omega, by omega, ?_⟩)
      rw [d, Lib.decDigits, dif_pos hq, Nat.mod_eq_of_lt hq]
      rfl
    · refine .inr (.inr ⟨by omega, ?_⟩)
      rw [d, Lib.decDigits, dif_neg hq, t1, List.append_assoc]
      rfl
theorem RDi.fin {n : Int} {l : List UInt8} (h : RDi n 0 l) (h0 : n ≠ 0) : l = Lib.decDigits n.natAbs := by
  rcases h.2.2.2 with ⟨_, d, _⟩ | ⟨_, _, d⟩ | ⟨d, _⟩
  · exact absurd d h0
  · exact d
  · exact absurd rfl d
theorem nDig_20 (u : Nat) (h : u ≤ 9223372036854775808) : Lib.nDigits u ≤ 20 := nDig_mono u 19 (by omega)
theorem RDi.len {n kv : Int} {l : List UInt8} (h : RDi n kv l) (hn : n.natAbs ≤ 9223372036854775808) : l.length ≤ 20 := by
  have hd := nDig_20 _ hn
  rw [← Lib.decDigits_length] at hd
  rcases h.2.2.2 with ⟨_, _, d⟩ | ⟨_, _, d⟩ | ⟨_, d⟩
  · rw [d]; decide
  · rw [d]; exact hd
  · rw [d, List.length_append] at hd; omega
theorem str_cons (x : UInt8) (l : List UInt8) : (⟨#[x]⟩ : ByteArray) ++ ⟨l.toArray⟩ = ⟨(x :: l).toArray⟩ := by
  have h := Joins.data_append ⟨#[x]⟩ ⟨l.toArray⟩
  generalize (⟨#[x]⟩ : ByteArray) ++ ⟨l.toArray⟩ = s at h
  cases s with
  | mk d =>
    congr 1
    apply Array.toList_inj.1
    rw [h]
    rfl
set_option maxHeartbeats 4000000 in
theorem rdecimal_any (w : World) (n : Int) (h0 : -9223372036854775808 ≤ n) (h1 : n ≤ 9223372036854775807) :
    Calls Tryd.prog 8 #[.int .i64 n] w fun e w' => e = .returned (.string ⟨(Lib.itoa n).toArray⟩) ∧ Below w.heap.size w w' := by
  have hn0 := Lib.hid h0
  have hn1 := Lib.hid h1
  have ST := Lib.hid (RDi.start n)
  clear h0 h1
  obtain ⟨out, hout⟩ : ∃ out : ByteArray, out = ⟨(Lib.itoa n).toArray⟩ := ⟨_, rfl⟩
  rw [← hout]
  replace hout := Lib.hid hout
  go_enter Tryd.func8, Tryd.ntmps8
  go_wp2
  go_loopw [3, 4] (fun sv iv wr => ∃ (kv : Int) (l : List UInt8), sv = .string ⟨l.toArray⟩ ∧ iv = .int .i64 kv ∧ Hid (RDi n kv l) ∧ Hid (Below w.heap.size w wr)) (fun _ iv _ => (intOf iv).natAbs)
  case atStart => exact ⟨n, [], rfl, rfl, ST, Below.refl _ _⟩
  case round =>
    obtain ⟨kv, l, rfl, rfl, rd, hb⟩ := hrel
    clear ST
    have hl1 : 1 + l.length ≤ 9223372036854775807 := by have := rd.out.len (by have := hn0.out; have := hn1.out; omega); omega
    by_cases hk : kv = 0
    · subst hk
      have hfin : ∀ h : n ≠ 0, l = Lib.decDigits n.natAbs := fun h => rd.out.fin h
      by_cases hn : n = 0
      · subst hn
        have hz : (⟨(Lib.itoa 0).toArray⟩ : ByteArray) = ⟨#[48]⟩ := by unfold Lib.itoa Lib.decDigits; rfl
        replace hz := Lib.hid hz
        clear hfin
        go_wp2
        go_ret
        exact ⟨by rw [hout.out, hz.out]; rfl, hb.out⟩
      · have hl := hfin hn
        have hnb : (n == 0) = false := by simpa using hn
        by_cases hs : n < 0
        · have hz : (⟨(Lib.itoa n).toArray⟩ : ByteArray) = ⟨#[45]⟩ ++ ⟨l.toArray⟩ := by
            unfold Lib.itoa
            rw [if_pos hs, hl]
            exact (str_cons 45 _).symm
          replace hz := Lib.hid hz
          clear hfin hl hn
          go_wp2
          go_ret
          exact ⟨by rw [hout.out, hz.out]; rfl, hb.out⟩
        · have hz : Lib.itoa n = l := by
            unfold Lib.itoa
            rw [if_neg hs, hl]
            congr 1
            omega
          replace hz := Lib.hid hz
          clear hfin hl hn
          go_wp2
          go_ret
          exact ⟨by rw [hout.out, hz.out]; rfl, hb.out⟩
    · have RN := Lib.hid (rd.out.step hk)
      obtain ⟨t1, t2, t3, t4, t5⟩ := tdiv10 kv
      obtain ⟨r, hr⟩ : ∃ r, r = kv.natAbs % 10 := ⟨_, rfl⟩
      have hr10 : r < 10 := by rw [hr]; exact Nat.mod_lt _ (by decide)
      rw [← hr] at RN t4 t5
      obtain ⟨x, hx⟩ : ∃ x, x = UInt8.ofNat (48 + r) := ⟨_, rfl⟩
      rw [← hx] at RN
      have hbound : -9223372036854775808 ≤ kv ∧ kv ≤ 9223372036854775807 := by
        obtain ⟨a, b, c, _⟩ := rd.out
        have := hn0.out; have := hn1.out
        omega
      have hq : wrap64 (kv.tdiv 10) = kv.tdiv 10 := by unfold wrap64; omega
      have hme : (kv.tdiv 10).natAbs < kv.natAbs := by omega
      have hcv : ∀ c : Int, c = 48 + r → (convert 39 9 (.slice (some ⟨wr.heap.size, 0, none⟩) 1 1)).run Tryd.prog (wr.alloc (.cells #[.int .u8 c] 5)) = .ok (.string ⟨#[x]⟩) (wr.alloc (.cells #[.int .u8 c] 5)) := fun c hc => by
        have := run_convert_bytes_arg (P := Tryd.prog) (wr.alloc (.cells #[.int .u8 c] 5)) 39 5 Tryd.underlying39 Tryd.underlying5 wr.heap.size 0 1 1 [c] rfl (fun i hi => by
          obtain rfl : i = 0 := by omega
          simp) 9 Tryd.underlying9
        rw [this, hc, hx]
        rfl
      have hcat : (⟨#[x]⟩ : ByteArray) ++ ⟨l.toArray⟩ = ⟨(x :: l).toArray⟩ := str_cons _ _
      have hb' := Lib.hid (balloc hb.out (.cells #[.int .u8 (48 + r : Int)] 5))
      clear hr t1 t2 t3 rd
      replace hx := Lib.hid hx
      replace hcat := Lib.hid hcat
      replace hq := Lib.hid hq
      replace hme := Lib.hid hme
      replace hbound := Lib.hid hbound
      obtain ⟨m, hm⟩ : ∃ m, kv.tmod 10 = m := ⟨_, rfl⟩
      have hkb : (kv == 0) = false := by simpa using hk
      by_cases hr0 : m < 0
      · have hmr : m = -(r : Int) := by
          by_cases hs : kv < 0
          · rw [← hm]; exact t5 (by omega)
          · have := t4 (by omega); omega
        have hm9 : -9 ≤ m := by omega
        have cv := hcv (48 + -m) (by omega)
        replace hmr := Lib.hid hmr
        clear hcv t4 t5 hr10 hk
        go_wp2
        go_roundw
        case rel => exact ⟨kv.tdiv 10, x :: l, by rw [hcat.out], by rw [hq.out], RN, by rw [show 48 + -m = (48 + r : Int) by have := hmr.out; omega]; exact hb'.out⟩
        case measure => rw [hq.out]; exact hme.out
      · have hmr : m = (r : Int) := by
          by_cases hs : kv < 0
          · have := t5 (by omega); omega
          · rw [← hm]; exact t4 (by omega)
        have hm9 : m ≤ 9 := by omega
        have hm0 : 0 ≤ m := by omega
        have cv := hcv (48 + m) (by omega)
        replace hmr := Lib.hid hmr
        clear hcv t4 t5 hr10 hk hr0
        go_wp2
        go_roundw
        case rel => exact ⟨kv.tdiv 10, x :: l, by rw [hcat.out], by rw [hq.out], RN, by rw [show 48 + m = (48 + r : Int) by have := hmr.out; omega]; exact hb'.out⟩
        case measure => rw [hq.out]; exact hme.out
end Go.Proofs.YtcbdldmejknfnaaDoor
