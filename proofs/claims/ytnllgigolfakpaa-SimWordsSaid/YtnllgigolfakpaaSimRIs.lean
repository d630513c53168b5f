/- The walk of the document's Is. Conditions: the bounds that an argument brings along. -/
import Derived.Test.YtnllgigolfakpaaSimRDir
import Derived.Test.YtnllgigolfakpaaSimIs
namespace Go.Proofs.Ytnllgigolfakpaa
open Go.RowKit

/-- a row as it stands -/
theorem RowsAt.lenAt {w : World} {a : Option Addr} {L : List (List Bool)} (h : RowsAt w a L) {i : Nat} (hi : i < L.length) : ∃ b off ai ci, a = some ⟨b, off, none⟩ ∧ w.cell? ⟨b, off + i, none⟩ = some (.slice ai L[i].length ci) := by
  obtain ⟨b, off, ai, ci, h1, h2, _⟩ := h.at i hi
  exact ⟨b, off, ai, ci, h1, h2⟩
set_option maxHeartbeats 4000000 in
theorem ris_any (W : World) (ai an : Option Addr) (ci cn : Nat) (A : AU) (h : AuAt W ai A.init.length an A.nodes.length A) (ok : AuOk A) (a : Option Addr) (c : Nat) (L : List (List Bool)) (hL : RowsAt W a L) (hll : L.length ≤ 1000000) :
    Calls Try.prog 14 #[.agg #[.int .i64 A.sets, .slice ai A.init.length ci, .slice an A.nodes.length cn], .slice a L.length c] W (GivesIs W A L) := by
  have hb0 : Below W.heap.size W (W.alloc (.cells #[.int .i64 A.sets, .slice ai A.init.length ci, .slice an A.nodes.length cn] AUT)) := balloc (Below.refl _ _) _
  have r1 := RowAt.new (w := W) (T := AUT) #[.int .i64 A.sets, .slice ai A.init.length ci, .slice an A.nodes.length cn] rfl
  have a2 : (W.alloc (.cells #[.int .i64 A.sets, .slice ai A.init.length ci, .slice an A.nodes.length cn] AUT)).cell? ⟨W.heap.size, 2, none⟩ = some (.slice an A.nodes.length cn) := r1.cell 2
  replace r1 := Lib.hid r1
  have CK := Lib.hid (rcheck_any _ ai an ci cn A (h.below hb0) ok)
  replace hb0 := Lib.hid hb0
  by_cases hc : chk A ≠ 0
  · have hcb : (chk A != 0) = true := by simpa using hc
    have hno : Hid (¬ IsP A L) := fun hp => hc hp.1
    generalize chk A = why at hcb CK
    clear hc h ok hL
    go_enter Try.func14, Try.ntmps14
    go_wp2_with fail
    refine CK.out.mono ?_
    rintro e w1 ⟨rfl, hb1⟩
    go_wp2
    go_ret
    exact ⟨false, rfl, ⟨fun e => by simp at e, fun hp => absurd hp hno.out⟩, btrans hb0.out hb1⟩
  have hc : chk A = 0 := by simpa using hc
  rw [hc] at CK
  have hn := (chk_good hc).1
  by_cases hln : ¬ L.length = A.nodes.length
  · have hlb : ((L.length : Int) != (A.nodes.length : Int)) = true := by simp; omega
    have hno : Hid (¬ IsP A L) := fun hp => hln hp.2.1
    clear hc h ok hL hln
    go_enter Try.func14, Try.ntmps14
    go_wp2_with fail
    refine CK.out.mono ?_
    rintro e w1 ⟨rfl, hb1⟩
    go_wp2
    go_ret
    exact ⟨false, rfl, ⟨fun e => by simp at e, fun hp => absurd hp hno.out⟩, btrans hb0.out hb1⟩
  have hln : L.length = A.nodes.length := by omega
  have HN := h.nodes
  have CANw := Lib.hid (fun w' (hb : Below W.heap.size W w') (hs : Square A.nodes.length L) i k hi hk => rcan_any w' ai an A.init.length ci cn A (HN.below hb) ok hc a c L hs (hL.below hb) i k hi hk)
  have hrow0 := Lib.hid (fun w' (hb : Below W.heap.size W w') i (hi : i < L.length) => (hL.below hb).lenAt hi)
  have hcel0 := Lib.hid (fun w' (hb : Below W.heap.size W w') (hs : Square A.nodes.length L) i k (hi : i < A.nodes.length) (hk : k < A.nodes.length) => (hL.below hb).cellAt hs hi hk)
  have hyes : Hid (∀ (_ : Square A.nodes.length L) (_ : IsSim A (fnOf L)), IsP A L) := fun hs hi => ⟨hc, hs.1, hs.2, hi⟩
  have hno1 : Hid (∀ l ∈ L, l.length ≠ A.nodes.length → ¬ IsP A L) := fun l hl hne hp => hne (hp.2.2.1 l hl)
  have hno2 : Hid (∀ i k, i < A.nodes.length → k < A.nodes.length → fnOf L i k = true → (aloB (sN A) (nd A i) (nd A k) && folB (fnOf L) (nd A i) (nd A k)) = false → ¬ IsP A L) := fun i k hi hk hr hf hp => by
    obtain ⟨q1, q2⟩ := hp.2.2.2 i k hi hk hr
    rw [q1, q2] at hf
    cases hf
  have hsim : Hid ((∀ i k, i < A.nodes.length → k < A.nodes.length → fnOf L i k = true → (aloB (sN A) (nd A i) (nd A k) && folB (fnOf L) (nd A i) (nd A k)) = true) → IsSim A (fnOf L)) := fun hh i k hi hk hr => by
    have := hh i k hi hk hr
    rwa [Bool.and_eq_true] at this
  rw [hln]
  obtain ⟨n, hnE⟩ : ∃ n, n = A.nodes.length := ⟨_, rfl⟩
  have hLn : Hid (L.length = n) := by show _ = _; rw [hnE]; exact hln
  rw [← hnE] at r1 CK hn hb0 hno1 hno2 hsim hyes hcel0 a2 ⊢
  have CAN : Hid (∀ w' (_ : Below W.heap.size W w') (_ : Square n L) (i k : Nat) (_ : i < n) (_ : k < n), Calls Try.prog 25 #[.agg #[.int .i64 A.sets, .slice ai A.init.length ci, .slice an n cn], .slice a n c, .int .i64 (i : Int), .int .i64 (k : Int)] w' fun e w'' => e = .returned (.bool (aloB (sN A) (nd A i) (nd A k) && folB (fnOf L) (nd A i) (nd A k))) ∧ Below w'.heap.size w' w'') := by
    rw [hnE]
    exact CANw.out
  have hrow : Hid (∀ w' (_ : Below W.heap.size W w') i (hi : i < n), ∃ b off ai ci, a = some ⟨b, off, none⟩ ∧ w'.cell? ⟨b, off + i, none⟩ = some (.slice ai (L[i]'(by rw [hLn.out]; exact hi)).length ci)) := fun w' hb i hi => hrow0.out w' hb i (by rw [hLn.out]; exact hi)
  have hn2 : (n : Int) ≤ 256 := by omega
  clear hnE CANw hrow0 h ok hL hc hln HN hll
  go_enter Try.func14, Try.ntmps14
  go_wp2_with fail
  refine CK.out.mono ?_
  rintro e w1 ⟨rfl, hb1⟩
  have s1 := Lib.hid (r1.out.below hb1)
  have hbw := Lib.hid (btrans hb0.out hb1)
  clear CK hb1 a2 r1 hb0
  go_wp2
  go_loop [4, 6] (fun rv iv => ∃ i : Nat, i ≤ n ∧ iv = .int .i64 i ∧ rv = .bool false ∧ Hid (∀ l ∈ L.take i, l.length = n)) (fun _ iv => n - (intOf iv).toNat)
  case atStart => exact ⟨0, Nat.zero_le _, rfl, rfl, fun l hl => by simp at hl⟩
  case round =>
    obtain ⟨i, hi, rfl, rfl, hall⟩ := hrel
    by_cases hin : i < n
    · have hin2 : (i : Int) < (n : Int) := by omega
      have hiL : i < L.length := by rw [hLn.out]; exact hin
      obtain ⟨b, off, ar, cr, hab, k1⟩ := hrow.out w1 hbw.out i hin
      obtain ⟨m, hm⟩ : ∃ m, m = L[i].length := ⟨_, rfl⟩
      rw [← hm] at k1
      subst hab
      by_cases hmn : m = n
      · have hst : Hid (∀ l ∈ L.take (i + 1), l.length = n) := fun l hl => by
          rw [List.take_add_one, List.getElem?_eq_getElem hiL, Option.toList_some, List.mem_append] at hl
          rcases hl with h1 | h1
          · exact hall.out l h1
          · simp at h1; subst h1; omega
        have hmb : ((m : Int) != (n : Int)) = false := by simp; omega
        clear hm hmn hiL
        go_wp2
        go_round
        case rel => exact ⟨i + 1, by omega, by go_num, rfl, hst⟩
        case measure => simp [intOf]; omega
      · have hmb : ((m : Int) != (n : Int)) = true := by simp; omega
        have hno := Lib.hid (hno1.out L[i] (List.getElem_mem hiL) (by omega))
        clear hm hmn hiL
        go_wp2
        go_ret
        exact ⟨false, rfl, ⟨fun e => by simp at e, fun hp => absurd hp hno.out⟩, hbw.out⟩
    · obtain rfl : i = n := by omega
      have hs : Hid (Square i L) := ⟨hLn.out, fun l hl => hall.out l (by rw [List.take_of_length_le (by rw [hLn.out]; exact Nat.le_refl _)]; exact hl)⟩
      clear hall hin hi
      go_wp2
      go_loopw [4, 7] (fun rv iv wr => ∃ j : Nat, j ≤ i ∧ iv = .int .i64 j ∧ rv = .bool false ∧ Hid (Below w1.heap.size w1 wr) ∧ Hid (∀ i' k', i' < j → k' < i → fnOf L i' k' = true → (aloB (sN A) (nd A i') (nd A k') && folB (fnOf L) (nd A i') (nd A k')) = true)) (fun _ iv _ => i - (intOf iv).toNat)
      case atStart => exact ⟨0, Nat.zero_le _, rfl, rfl, Below.refl _ _, fun i' k' h => by omega⟩
      case round =>
        obtain ⟨j, hj, rfl, rfl, lo, hall⟩ := hrel
        by_cases hji : j < i
        · have hji2 : (j : Int) < (i : Int) := by omega
          go_wp2
          go_loopw [4, 8] (fun rv kv wr => ∃ k : Nat, k ≤ i ∧ kv = .int .i64 k ∧ rv = .bool false ∧ Hid (Below w1.heap.size w1 wr) ∧ Hid (∀ k', k' < k → fnOf L j k' = true → (aloB (sN A) (nd A j) (nd A k') && folB (fnOf L) (nd A j) (nd A k')) = true)) (fun _ kv _ => i - (intOf kv).toNat)
          case atStart => exact ⟨0, Nat.zero_le _, rfl, rfl, lo, fun k' h => by omega⟩
          case round =>
            obtain ⟨k, hk, rfl, rfl, lo, hrw⟩ := hrel
            by_cases hki : k < i
            · have hki2 : (k : Int) < (i : Int) := by omega
              have hbr := btrans hbw.out lo.out
              obtain ⟨b1, o1, ra, rc, b2, o2, hab1, _, k1, hab2, _, k2⟩ := hcel0.out wr hbr hs.out j k hji hki
              have sr := s1.out.below lo.out
              have x0 : wr.cell? ⟨W.heap.size, 0, none⟩ = some (.int .i64 A.sets) := sr.cell 0
              have x1 : wr.cell? ⟨W.heap.size, 1, none⟩ = some (.slice ai A.init.length ci) := sr.cell 1
              have x2 : wr.cell? ⟨W.heap.size, 2, none⟩ = some (.slice an i cn) := sr.cell 2
              have C1 := Lib.hid (CAN.out wr hbr hs.out j k hji hki)
              have hnn := Lib.hid (hno2.out j k hji hki)
              have hst : Hid ((fnOf L j k = true → (aloB (sN A) (nd A j) (nd A k) && folB (fnOf L) (nd A j) (nd A k)) = true) → ∀ k', k' < k + 1 → fnOf L j k' = true → (aloB (sN A) (nd A j) (nd A k') && folB (fnOf L) (nd A j) (nd A k')) = true) := fun hh k' h1 h2 => by
                rcases Nat.lt_succ_iff_lt_or_eq.1 h1 with h3 | rfl
                · exact hrw.out k' h3 h2
                · exact hh h2
              generalize (aloB (sN A) (nd A j) (nd A k) && folB (fnOf L) (nd A j) (nd A k)) = av at C1 hnn hst
              generalize hfb : fnOf L j k = fb at k2 hnn hst
              replace hfb := Lib.hid hfb
              replace sr := Lib.hid sr
              replace hbr := Lib.hid hbr
              subst hab1
              subst hab2
              cases fb with
              | false =>
                have hst2 := Lib.hid (hst.out (fun e => by cases e))
                clear hst hnn hfb
                go_wp2_with fail
                go_roundw
                case rel => exact ⟨k + 1, by omega, by go_num, rfl, lo, hst2⟩
                case measure => simp [intOf]; omega
              | true =>
                cases av with
                | true =>
                  have hst2 := Lib.hid (hst.out (fun e => rfl))
                  clear hst hnn hfb
                  go_wp2_with fail
                  refine C1.out.mono ?_
                  rintro e w5 ⟨rfl, hb5⟩
                  have lo5 := Lib.hid (btrans lo.out hb5)
                  go_wp2
                  go_roundw
                  case rel => exact ⟨k + 1, by omega, by go_num, rfl, lo5, hst2⟩
                  case measure => simp [intOf]; omega
                | false =>
                  have hno := Lib.hid (hnn.out rfl rfl)
                  clear hst hnn hfb
                  go_wp2_with fail
                  refine C1.out.mono ?_
                  rintro e w5 ⟨rfl, hb5⟩
                  have lo5 := Lib.hid (btrans hbr.out hb5)
                  go_wp2
                  go_ret
                  exact ⟨false, rfl, ⟨fun e => by simp at e, fun hp => absurd hp hno.out⟩, lo5.out⟩
            · obtain rfl : k = i := by omega
              have hst : Hid (∀ i' k', i' < j + 1 → k' < k → fnOf L i' k' = true → (aloB (sN A) (nd A i') (nd A k') && folB (fnOf L) (nd A i') (nd A k')) = true) := fun i' k' h1 h2 h3 => by
                rcases Nat.lt_succ_iff_lt_or_eq.1 h1 with h4 | rfl
                · exact hall.out i' k' h4 h2 h3
                · exact hrw.out k' h2 h3
              clear hall hrw
              go_wp2
              go_roundw
              case rel => exact ⟨j + 1, by omega, by go_num, rfl, lo, hst⟩
              case measure => simp [intOf]; omega
        · obtain rfl : j = i := by omega
          have hp := Lib.hid (hyes.out hs.out (hsim.out hall.out))
          have lo2 := Lib.hid (btrans hbw.out lo.out)
          clear hall lo
          go_wp2
          go_ret
          exact ⟨true, rfl, ⟨fun _ => hp.out, fun _ => rfl⟩, lo2.out⟩
end Go.Proofs.Ytnllgigolfakpaa
