/- The document's Same of graphs, for two that are the same. Conditions: small ones. -/
import Derived.Test.YtmlbjfaofppikaaPrWhole
import Derived.Deep.QuietTactic
namespace Go.Proofs.Ytmlbjfaofppikaa
open Go.RowKit

set_option maxHeartbeats 2000000 in
theorem gints_same (w : World) (a b : Option Addr) (c d : Nat) (l : List Int) (n : Nat) (hn : n = l.length) (ha : NumsAt .i64 w a l) (hb : NumsAt .i64 w b l) (hl : (n : Int) ≤ 1000000) :
    Calls Try.prog 49 #[.slice a n c, .slice b n d] w fun e w' => e = .returned (.bool true) ∧ Quiet w w' := by
  have h0 : ((n : Int) != (n : Int)) = false := by simp
  replace hn := Lib.hid hn
  replace ha := Lib.hid ha
  replace hb := Lib.hid hb
  go_enter Try.func49, Try.ntmps49
  go_wp2
  go_loopw [4, 5] (fun bv iv wr => ∃ (k m : Nat), bv = .bool false ∧ k ≤ n ∧ iv = .int .i64 k ∧ wr = w.drewN m) (fun _ iv _ => n - (intOf iv).toNat)
  case atStart => exact ⟨0, 0, rfl, Nat.zero_le _, rfl, rfl⟩
  case round =>
    obtain ⟨k, m, rfl, hk, rfl, rfl⟩ := hrel
    by_cases hkl : k < n
    · have hk2 : (k : Int) < (n : Int) := by omega
      obtain ⟨b1, o1, x, rfl, cx, hx⟩ := ha.out.at k (by have := hn.out; omega)
      obtain ⟨b2, o2, y, rfl, cy, hy⟩ := hb.out.at k (by have := hn.out; omega)
      obtain rfl : x = y := by rw [hx.out, hy.out]
      have hxx : (x != x) = false := by simp
      clear hx hy
      go_wp2
      go_quiet (fail)
      go_wp2
      go_roundw
      case rel => exact ⟨k + 1, _, rfl, by omega, by go_num, by first | rfl | exact World.drewN_drewN _ _ _⟩
      case measure => simp [intOf]; omega
    · obtain rfl : k = n := by omega
      go_wp2
      go_ret
      exact ⟨rfl, m, rfl⟩
abbrev g3c (ia ea la : Option Addr) (ni ic ne ec nl lc : Nat) : List Value := [.slice ia ni ic, .slice ea ne ec, .slice la nl lc]
set_option maxRecDepth 20000 in
set_option maxHeartbeats 8000000 in
theorem gsame_yes (w : World) (ia ea la ib eb lb : Option Addr) (ic ec lc id_ ed ld : Nat) (init : List Int) (es : List (List PR)) (labs : List Nat) (ni ne nl : Nat) (hni : ni = init.length) (hne : ne = es.length) (hnl : nl = labs.length)
    (h1 : NumsAt .i64 w ia init) (h2 : EdgesAt w ea es) (h3 : NumsAt .u64 w la (natI labs)) (k1 : NumsAt .i64 w ib init) (k2 : EdgesAt w eb es) (k3 : NumsAt .u64 w lb (natI labs)) (bi : (ni : Int) ≤ 1000000) (be : (ne : Int) ≤ 1000000) (bl : (nl : Int) ≤ 1000000) (br : ∀ r ∈ es, r.length ≤ 1000000) :
    Calls Try.prog 25 #[.agg #[.slice ia ni ic, .slice ea ne ec, .slice la nl lc], .agg #[.slice ib ni id_, .slice eb ne ed, .slice lb nl ld]] w fun e w' => e = .returned (.bool true) ∧ Below w.heap.size w w' := by
  obtain ⟨w2, hw2⟩ : ∃ w2, w2 = (w.alloc (.cells #[.slice ia ni ic, .slice ea ne ec, .slice la nl lc] TG)).alloc (.cells #[.slice ib ni id_, .slice eb ne ed, .slice lb nl ld] TG) := ⟨_, rfl⟩
  have hb2 : Below w.heap.size w w2 := by rw [hw2]; exact balloc (balloc (Below.refl _ _) _) _
  have ra : RowAt w2 w.heap.size TG [.slice ia ni ic, .slice ea ne ec, .slice la nl lc] := by rw [hw2]; exact (RowAt.new #[_, _, _] rfl).alloc _
  have rb : RowAt w2 (w.heap.size + 1) TG [.slice ib ni id_, .slice eb ne ed, .slice lb nl ld] := by rw [hw2]; exact RowAt.new #[_, _, _] (by simp)
  have a0 : w2.cell? ⟨w.heap.size, 0, none⟩ = some (.slice ia ni ic) := ra.cell 0
  have a1 : w2.cell? ⟨w.heap.size, 1, none⟩ = some (.slice ea ne ec) := ra.cell 1
  have a2 : w2.cell? ⟨w.heap.size, 2, none⟩ = some (.slice la nl lc) := ra.cell 2
  have b0 : w2.cell? ⟨w.heap.size + 1, 0, none⟩ = some (.slice ib ni id_) := rb.cell 0
  have b1 : w2.cell? ⟨w.heap.size + 1, 1, none⟩ = some (.slice eb ne ed) := rb.cell 1
  have b2 : w2.cell? ⟨w.heap.size + 1, 2, none⟩ = some (.slice lb nl ld) := rb.cell 2
  have GI := Lib.hid (gints_same w2 ia ib ic id_ init ni hni (h1.below hb2) (k1.below hb2) bi)
  have H2 := Lib.hid (h2.below hb2)
  have H3 := Lib.hid (h3.below hb2)
  have K2 := Lib.hid (k2.below hb2)
  have K3 := Lib.hid (k3.below hb2)
  have e1 : ((ne : Int) != (ne : Int)) = false := by simp
  have e2 : ((nl : Int) != (nl : Int)) = false := by simp
  have HW := Lib.hid hw2
  replace hne := Lib.hid hne
  replace hnl := Lib.hid hnl
  replace hb2 := Lib.hid hb2
  replace br := Lib.hid br
  clear hw2 ra rb h1 h2 h3 k1 k2 k3 hni
  go_enter Try.func25, Try.ntmps25
  go_wp2_with fail
  rw [← HW.out]
  clear HW
  refine GI.out.mono ?_
  rintro e wq ⟨rfl, n0, rfl⟩
  go_wp2
  go_loopw [4, 5] (fun bv iv wr => ∃ (k m : Nat), bv = .bool false ∧ k ≤ nl ∧ iv = .int .i64 k ∧ wr = w2.drewN m) (fun _ iv _ => nl - (intOf iv).toNat)
  case atStart => exact ⟨0, n0, rfl, Nat.zero_le _, rfl, rfl⟩
  case round =>
    obtain ⟨k, m, rfl, hk, rfl, rfl⟩ := hrel
    by_cases hkl : k < nl
    · have hk2 : (k : Int) < (nl : Int) := by omega
      obtain ⟨g1, o1, x, rfl, cx, hx⟩ := H3.out.at k (by rw [natI_len]; have := hnl.out; omega)
      obtain ⟨g2, o2, y, rfl, cy, hy⟩ := K3.out.at k (by rw [natI_len]; have := hnl.out; omega)
      obtain rfl : x = y := by rw [hx.out, hy.out]
      have hxx : (x != x) = false := by simp
      clear hx hy
      go_wp2
      go_quiet (fail)
      go_wp2
      go_roundw
      case rel => exact ⟨k + 1, _, rfl, by omega, by go_num, by first | rfl | exact World.drewN_drewN _ _ _⟩
      case measure => simp [intOf]; omega
    · obtain rfl : k = nl := by omega
      go_wp2
      go_loopw [4, 6] (fun bv iv wr => ∃ (j m : Nat), bv = .bool false ∧ j ≤ ne ∧ iv = .int .i64 j ∧ wr = w2.drewN m) (fun _ iv _ => ne - (intOf iv).toNat)
      case atStart => exact ⟨0, m, rfl, Nat.zero_le _, rfl, rfl⟩
      case round =>
        obtain ⟨j, m, rfl, hj, rfl, rfl⟩ := hrel
        by_cases hjl : j < ne
        · have hj2 : (j : Int) < (ne : Int) := by omega
          obtain ⟨g1, o1, ai, ci, rfl, _, cx, _, px⟩ := H2.out.at j (by have := hne.out; omega)
          obtain ⟨g2, o2, bi_, di, rfl, _, cy, _, py⟩ := K2.out.at j (by have := hne.out; omega)
          have hrb := br.out _ (List.getElem_mem (show j < es.length by have := hne.out; omega))
          generalize es[j]'(by have := hne.out; omega) = row at cx cy px py hrb
          obtain ⟨nr, hnr⟩ : ∃ n, n = row.length := ⟨_, rfl⟩
          rw [← hnr] at cx cy hrb
          have hrbi : (nr : Int) ≤ 1000000 := by omega
          have e3 : ((nr : Int) != (nr : Int)) = false := by simp
          have PX := Lib.hid px
          have PY := Lib.hid py
          replace hnr := Lib.hid hnr
          clear px py hrb
          go_wp2
          go_quiet (fail)
          go_wp2
          go_loopw [4, 7] (fun bv iv wr => ∃ (q m : Nat), bv = .bool false ∧ q ≤ nr ∧ iv = .int .i64 q ∧ wr = w2.drewN m) (fun _ iv _ => nr - (intOf iv).toNat)
          case atStart => exact ⟨0, _, rfl, Nat.zero_le _, rfl, by first | rfl | exact World.drewN_drewN _ _ _⟩
          case round =>
            obtain ⟨q, m, rfl, hq, rfl, rfl⟩ := hrel
            by_cases hql : q < nr
            · have hq2 : (q : Int) < (nr : Int) := by omega
              obtain ⟨t1, s1, rfl, _, u0, u1⟩ := PX.out.at q (by have := hnr.out; omega)
              obtain ⟨t2, s2, rfl, _, v0, v1⟩ := PY.out.at q (by have := hnr.out; omega)
              generalize row[q]'(by have := hnr.out; omega) = p at u0 u1 v0 v1
              obtain ⟨p0, p1⟩ := p
              simp only at u0 u1 v0 v1
              go_wp2
              go_quiet (fail)
              go_wp2
              go_roundw
              case rel => exact ⟨q + 1, _, rfl, by omega, by go_num, by first | rfl | exact World.drewN_drewN _ _ _⟩
              case measure => simp [intOf]; omega
            · obtain rfl : q = nr := by omega
              go_wp2
              go_roundw
              case rel => exact ⟨j + 1, m, rfl, by omega, by go_num, rfl⟩
              case measure => simp [intOf]; omega
        · obtain rfl : j = ne := by omega
          go_wp2
          go_ret
          exact ⟨rfl, bdrewN hb2.out m⟩
end Go.Proofs.Ytmlbjfaofppikaa
