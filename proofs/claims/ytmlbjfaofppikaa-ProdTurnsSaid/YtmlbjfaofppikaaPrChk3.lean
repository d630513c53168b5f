/- The walk of the document's Check of a graph. Conditions: none but the bounds of an argument. -/
import Derived.Test.YtmlbjfaofppikaaPrChk2
namespace Go.Proofs.Ytmlbjfaofppikaa
open Go.RowKit

set_option maxRecDepth 10000 in
set_option maxHeartbeats 2000000 in
theorem rgcheck_any (w : World) (ai ae al : Option Addr) (ci ce cl : Nat) (G : GR) (h : GAt w ai ae al G) (ok : GOk G) :
    Calls Try.prog 32 #[.agg #[.slice ai G.init.length ci, .slice ae G.edges.length ce, .slice al G.labels.length cl]] w fun e w' => e = .returned (.int .i64 (gchk G)) ∧ Below w.heap.size w w' := by
  have b1 := ok.initL
  have b2 := ok.edgesL
  have b3 := ok.labsL
  obtain ⟨n, hn⟩ : ∃ n, n = G.edges.length := ⟨_, rfl⟩
  obtain ⟨ni, hni⟩ : ∃ n, n = G.init.length := ⟨_, rfl⟩
  obtain ⟨nl, hnl⟩ : ∃ n, n = G.labels.length := ⟨_, rfl⟩
  have hch : Hid (gchk G = if 65536 < n then 11 else if nl ≠ n then 3 else if G.init.any (outB n) then 10 else if G.edges.any (edgeOut n) then 10 else 0) := by
    show _ = _; rw [hn, hnl]; rfl
  obtain ⟨r, hr⟩ : ∃ r, r = gchk G := ⟨_, rfl⟩
  rw [← hr] at hch ⊢
  rw [← hn] at b2 ⊢
  rw [← hni] at b1 ⊢
  rw [← hnl] at b3 ⊢
  replace hr := Lib.hid hr
  obtain ⟨w1, hw1⟩ : ∃ w1, w.alloc (.cells #[.slice ai ni ci, .slice ae n ce, .slice al nl cl] TG) = w1 := ⟨_, rfl⟩
  have hb1 : Below w.heap.size w w1 := by rw [← hw1]; exact balloc (Below.refl _ _) _
  have hrow : RowAt w1 w.heap.size TG [.slice ai ni ci, .slice ae n ce, .slice al nl cl] := by rw [← hw1]; exact RowAt.new #[.slice ai ni ci, .slice ae n ce, .slice al nl cl] rfl
  have cells : ∀ wr, Below w1.heap.size w1 wr → wr.cell? ⟨w.heap.size, 0, none⟩ = some (.slice ai ni ci) ∧ wr.cell? ⟨w.heap.size, 1, none⟩ = some (.slice ae n ce) ∧ wr.cell? ⟨w.heap.size, 2, none⟩ = some (.slice al nl cl) := fun wr hb => by
    have h1 := hrow.below hb
    exact ⟨h1.cell 0, h1.cell 1, h1.cell 2⟩
  obtain ⟨c0, c1, c2⟩ := cells w1 (Below.refl _ _)
  have hw1' := Lib.hid hw1
  replace hn := Lib.hid hn
  replace hni := Lib.hid hni
  replace hnl := Lib.hid hnl
  have hG1 := h.below hb1
  replace cells := Lib.hid cells
  by_cases h1 : 65536 < n
  · have hd : decide ((65536 : Int) < (n : Int)) = true := by simp; omega
    have hR : Hid (r = 11) := by show _ = _; rw [hch.out, if_pos h1]
    rw [hR.out]
    go_enter Try.func32, Try.ntmps32
    go_wp2
    go_ret
    exact ⟨rfl, hb1⟩
  have hd : decide ((65536 : Int) < (n : Int)) = false := by simp; omega
  by_cases h2 : nl ≠ n
  · have hd2 : ((nl : Int) != (n : Int)) = true := by simp; omega
    have hR : Hid (r = 3) := by show _ = _; rw [hch.out, if_neg h1, if_pos h2]
    rw [hR.out]
    clear h2
    go_enter Try.func32, Try.ntmps32
    go_wp2
    go_ret
    exact ⟨rfl, hb1⟩
  have hd2 : ((nl : Int) != (n : Int)) = false := by simp; omega
  have hch2 : Hid (r = if G.init.any (outB n) then 10 else if G.edges.any (edgeOut n) then 10 else 0) := by show _ = _; rw [hch.out, if_neg h1, if_neg h2]
  clear h1 h2 hch
  have ND := Lib.hid (fun wr x => rnode_any wr ai ae al ni ci n ce nl cl x)
  go_enter Try.func32, Try.ntmps32
  go_wp2_with fail
  go_loopw [2, 3] (fun t i wr => ∃ k : Nat, k ≤ ni ∧ i = .int .i64 k ∧ Below w1.heap.size w1 wr ∧ Hid ((G.init.take k).any (outB n) = false)) (fun _ i _ => ni - (intOf i).toNat)
  case atStart => exact ⟨0, Nat.zero_le _, rfl, Below.refl _ _, by simp [Hid]⟩
  case round =>
    clear c0 c1 c2 hw1
    obtain ⟨k, hk, rfl, hb, hall⟩ := hrel
    obtain ⟨c0, c1, c2⟩ := cells.out wr hb
    by_cases hlt : k < ni
    · have hkl : k < G.init.length := by have := hni.out; omega
      obtain ⟨bb, off, x, rfl, _, cx, hx⟩ := hG1.init.atb hb k hkl
      have hx2 : x = G.init[k] := by rw [hx.out, List.getD_eq_getElem?_getD, List.getElem?_eq_getElem hkl]; rfl
      have hst := any_step hkl hall.out
      rw [← hx2] at hst
      replace hst := Lib.hid hst
      clear hx2
      have hbd : Below w1.heap.size w1 wr.drew := ⟨hb.os, hb.tape, hb.output, hb.size, hb.block⟩
      cases ho : outB n x with
      | true =>
        rw [ho] at hst
        have N1 := ND.out wr.drew x
        rw [ho] at N1
        replace N1 := Lib.hid N1
        have hR : Hid (r = 10) := by show _ = _; rw [hch2.out, any_take hst.out]; rfl
        clear ho
        go_wp2
        refine wp_region_still_tail 6 (by kernel_rfl) (by kernel_rfl) ?_
        simp only [List.take_succ_cons, List.take_zero, List.drop_succ_cons, List.drop_zero, World.drew_eq]
        repeat still_step
        refine wpStill_nil ?_
        go_wp2_with fail
        refine N1.out.mono ?_
        rintro e w9 ⟨rfl, hb9⟩
        go_wp2
        go_ret
        exact ⟨ret_int hR.out.symm, btrans hb1 (btrans hbd hb9)⟩
      | false =>
        rw [ho] at hst
        have N1 := ND.out wr.drew x
        rw [ho] at N1
        replace N1 := Lib.hid N1
        clear ho
        go_wp2
        refine wp_region_still_tail 6 (by kernel_rfl) (by kernel_rfl) ?_
        simp only [List.take_succ_cons, List.take_zero, List.drop_succ_cons, List.drop_zero, World.drew_eq]
        repeat still_step
        refine wpStill_nil ?_
        go_wp2_with fail
        refine N1.out.mono ?_
        rintro e w9 ⟨rfl, hb9⟩
        have hb9' := btrans hbd hb9
        clear hb hbd hb9
        go_wp2
        go_roundw
        case rel => exact ⟨k + 1, by omega, by go_num, hb9', hst⟩
        case measure => simp [intOf]; omega
    · obtain rfl : k = ni := by omega
      have hI := hall.out
      rw [List.take_of_length_le (by have := hni.out; omega)] at hI
      have hch3 : Hid (r = if G.edges.any (edgeOut n) then 10 else 0) := by show _ = _; rw [hch2.out, hI]; rfl
      clear hI hch2 hall hlt
      go_wp2_with fail
      go_loopw [2, 4] (fun t i wr => ∃ j : Nat, j ≤ n ∧ i = .int .i64 j ∧ Below w1.heap.size w1 wr ∧ Hid ((G.edges.take j).any (edgeOut n) = false)) (fun _ i _ => n - (intOf i).toNat)
      case atStart => exact ⟨0, Nat.zero_le _, rfl, hb, by simp [Hid]⟩
      case round =>
        clear c0 c1 c2 hb
        obtain ⟨j, hj, rfl, hb, hall⟩ := hrel
        by_cases hlt : j < n
        · have hjl : j < G.edges.length := by have := hn.out; omega
          obtain ⟨bb, off, aj, cj, rfl, _, cee, _, hp⟩ := hG1.edges.at j hjl
          obtain ⟨es, hes⟩ : ∃ es, es = G.edges[j] := ⟨_, rfl⟩
          have hst := any_step hjl hall.out
          have hrl := ok.rows _ (List.getElem_mem hjl)
          rw [← hes] at hst cee hp hrl
          obtain ⟨ne, hne⟩ : ∃ ne, ne = es.length := ⟨_, rfl⟩
          rw [← hne] at cee hrl
          replace hst := Lib.hid hst
          replace hes := Lib.hid hes
          replace hne := Lib.hid hne
          obtain ⟨c0, c1, c2⟩ := cells.out wr hb
          go_wp2_with fail
          go_loopw [2, 5] (fun t i wr => ∃ m : Nat, m ≤ ne ∧ i = .int .i64 m ∧ Below w1.heap.size w1 wr ∧ Hid ((es.take m).any (fun e => outB n e.1) = false)) (fun _ i _ => ne - (intOf i).toNat)
          case atStart => exact ⟨0, Nat.zero_le _, rfl, hb, by simp [Hid]⟩
          case round =>
            clear c0 c1 c2 hb
            obtain ⟨m, hm, rfl, hb, hall2⟩ := hrel
            obtain ⟨c0, c1, c2⟩ := cells.out wr hb
            have ceer := bcell hb cee
            have hbd : Below w1.heap.size w1 wr.drew := ⟨hb.os, hb.tape, hb.output, hb.size, hb.block⟩
            by_cases hlt2 : m < ne
            · have hml : m < es.length := by have := hne.out; omega
              obtain ⟨b2, off2, rfl, _, d0, _⟩ := (hp.below hb).at m hml
              obtain ⟨x, hx⟩ : ∃ x, x = es[m].1 := ⟨_, rfl⟩
              have hst2 := any_step hml hall2.out
              rw [← hx] at d0 hst2
              replace hst2 := Lib.hid hst2
              replace hx := Lib.hid hx
              cases ho : outB n x with
              | true =>
                rw [ho] at hst2
                have N1 := ND.out wr.drew x
                rw [ho] at N1
                replace N1 := Lib.hid N1
                have hR : Hid (r = 10) := by
                  have he : edgeOut n es = true := any_take hst2.out
                  have h1 := hst.out
                  rw [he] at h1
                  show _ = _; rw [hch3.out, any_take h1]; rfl
                clear ho
                go_wp2
                refine wp_region_still_tail 10 (by kernel_rfl) (by kernel_rfl) ?_
                simp only [List.take_succ_cons, List.take_zero, List.drop_succ_cons, List.drop_zero, World.drew_eq]
                repeat still_step
                refine wpStill_nil ?_
                go_wp2_with fail
                refine N1.out.mono ?_
                rintro e w9 ⟨rfl, hb9⟩
                go_wp2
                go_ret
                exact ⟨ret_int hR.out.symm, btrans hb1 (btrans hbd hb9)⟩
              | false =>
                rw [ho] at hst2
                have N1 := ND.out wr.drew x
                rw [ho] at N1
                replace N1 := Lib.hid N1
                clear ho
                go_wp2
                refine wp_region_still_tail 10 (by kernel_rfl) (by kernel_rfl) ?_
                simp only [List.take_succ_cons, List.take_zero, List.drop_succ_cons, List.drop_zero, World.drew_eq]
                repeat still_step
                refine wpStill_nil ?_
                go_wp2_with fail
                refine N1.out.mono ?_
                rintro e w9 ⟨rfl, hb9⟩
                have hb9' := btrans hbd hb9
                clear hb hbd hb9
                go_wp2
                go_roundw
                case rel => exact ⟨m + 1, by omega, by go_num, hb9', hst2⟩
                case measure => simp [intOf]; omega
            · obtain rfl : m = ne := by omega
              have hI := hall2.out
              rw [List.take_of_length_le (by have := hne.out; omega)] at hI
              have h1 := hst.out
              rw [show edgeOut n es = false from hI] at h1
              replace h1 := Lib.hid h1
              clear hI hall2 hlt2 hbd
              go_wp2
              go_roundw
              case rel => exact ⟨j + 1, by omega, by go_num, hb, h1⟩
              case measure => simp [intOf]; omega
        · obtain rfl : j = n := by omega
          obtain ⟨c0, c1, c2⟩ := cells.out wr hb
          have hI := hall.out
          rw [List.take_of_length_le (by have := hn.out; omega)] at hI
          have hR : Hid (r = 0) := by show _ = _; rw [hch3.out, hI]; rfl
          clear hI hch3 hall hlt
          go_wp2
          go_ret
          exact ⟨ret_int hR.out.symm, btrans hb1 hb⟩
end Go.Proofs.Ytmlbjfaofppikaa
