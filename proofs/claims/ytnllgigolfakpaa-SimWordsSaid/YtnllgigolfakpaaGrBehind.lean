/- From which nodes a way of one edge or more leads to a goal. Conditions: the bounds of a graph. -/
import Derived.Test.YtnllgigolfakpaaGrBack
namespace Go.Proofs.Ytnllgigolfakpaa
open Go.RowKit

def bhB (bs : List Bool) (es : List (List Nat)) (p : Nat) : Bool := (es.getD p []).any fun u => bs.getD u false
def bhT (bs : List Bool) (es : List (List Nat)) (n k j : Nat) : List Bool := (List.range n).map fun p => if p < k then bhB bs es p else if p = k then ((es.getD k []).take j).any (fun u => bs.getD u false) else false
theorem bhT_start (bs : List Bool) (es : List (List Nat)) (n : Nat) : bhT bs es n 0 0 = List.replicate n false := by
  apply List.ext_getElem
  · simp [bhT]
  · intro k h1 h2
    simp [bhT]
theorem bhT_at {bs : List Bool} {es : List (List Nat)} {n k j : Nat} (h : k < n) : (bhT bs es n k j)[k]? = some (((es.getD k []).take j).any fun u => bs.getD u false) := by simp [bhT, h]
theorem bhT_set {bs : List Bool} {es : List (List Nat)} {n k j u : Nat} (hk : k < n) (hu : (es.getD k [])[j]? = some u) : (bhT bs es n k j).set k ((((es.getD k []).take j).any fun u => bs.getD u false) || bs.getD u false) = bhT bs es n k (j + 1) := by
  apply List.ext_getElem
  · simp [bhT]
  · intro p h1 h2
    rw [List.getElem_set]
    simp only [bhT, List.getElem_map, List.getElem_range]
    by_cases e : k = p
    · subst e
      have h3 : ¬ k < k := by omega
      rw [if_pos rfl, if_neg h3, if_pos rfl, List.take_add_one, hu, List.any_append]
      simp
    · rw [if_neg e]
      by_cases hj : p < k
      · rw [if_pos hj, if_pos hj]
      · have h3 : ¬ p = k := fun h => e h.symm
        rw [if_neg hj, if_neg hj, if_neg h3, if_neg h3]
theorem bhT_next {bs : List Bool} {es : List (List Nat)} {n k : Nat} : bhT bs es n k (es.getD k []).length = bhT bs es n (k + 1) 0 := by
  unfold bhT
  refine List.map_congr_left fun p _ => ?_
  rw [List.take_length]
  by_cases h1 : p < k
  · have h2 : p < k + 1 := by omega
    rw [if_pos h1, if_pos h2]
  · rw [if_neg h1]
    by_cases h2 : p = k
    · subst h2
      have h3 : p < p + 1 := by omega
      rw [if_pos rfl, if_pos h3]
      rfl
    · have h3 : ¬ p < k + 1 := by omega
      rw [if_neg h2, if_neg h3]
      simp
theorem bhT_done {bs : List Bool} {es : List (List Nat)} {n v : Nat} (hv : v < n) : (bhT bs es n n 0).getD v false = bhB bs es v := by simp [bhT, List.getD, hv]
theorem bhT_len (bs : List Bool) (es : List (List Nat)) (n k j : Nat) : (bhT bs es n k j).length = n := by simp [bhT]
set_option maxRecDepth 10000 in
set_option maxHeartbeats 4000000 in
theorem behind_any (W : World) (ae : Option Addr) (ce : Nat) (es : List (List Nat)) (hE : GrAt W ae es) (ok : GrOk 1000000 es) (ag : Option Addr) (cg : Nat) (gl : List Bool) (hG : BsAt W ag gl) (hgl : gl.length = es.length) :
    Calls Try.prog 37 #[GV none 0 0 ae es.length ce none 0 0, .slice ag es.length cg] W (GivesMarks W es.length fun v => ∃ t, gl.getD t false = true ∧ Way (GE es) All v t) := by
  have BK := Lib.hid (fun w' (hb : Below W.heap.size W w') => back_any w' ae ce es (hE.below hb) ok ag cg gl (hG.below hb) hgl)
  have hfin : Hid (∀ xs : List Bool, (∀ v, v < es.length → (xs.getD v false = true ↔ ∃ u, gl.getD u false = true ∧ Way0 (GE es) All v u)) → ∀ v, v < es.length → ((bhT xs es es.length es.length 0).getD v false = true ↔ ∃ t, gl.getD t false = true ∧ Way (GE es) All v t)) := fun xs hx v hv => by
    rw [bhT_done hv]
    unfold bhB
    rw [List.any_eq_true]
    have hlt : ∀ u ∈ es.getD v [], u < es.length := fun u hu => by
      obtain ⟨e1, _, e3⟩ := ok.get hv
      rw [e1] at hu
      exact e3 u hu
    constructor
    · rintro ⟨u, hu, hb⟩
      obtain ⟨t, ht, hw⟩ := (hx u (hlt u hu)).1 hb
      exact ⟨t, ht, (Way.one trivial hu trivial).trans0 hw⟩
    · rintro ⟨t, ht, hw⟩
      obtain ⟨_, u, he, _, hr⟩ := hw.cases
      have he' : u ∈ es.getD v [] := he
      exact ⟨u, he', (hx u (hlt u he')).2 ⟨t, ht, hr⟩⟩
  have hlen := ok.len
  obtain ⟨n, hn⟩ : ∃ n, n = es.length := ⟨_, rfl⟩
  rw [← hn] at BK hfin hlen ⊢
  replace hn := Lib.hid hn
  have hb0 : Below W.heap.size W (W.alloc (.cells #[.slice none 0 0, .slice ae n ce, .slice none 0 0] TGr)) := balloc (Below.refl _ _) _
  have r1 := Lib.hid (RowAt.new (w := W) (T := TGr) #[.slice none 0 0, .slice ae n ce, .slice none 0 0] rfl)
  have B0 := Lib.hid (BK.out _ hb0)
  have hby : Hid (1 * n ≤ 281474976710656) := by show _ ≤ _; omega
  have hn2 : (n : Int) ≤ 1000000 := by omega
  have hn0 : 0 ≤ (n : Int) := by omega
  replace hb0 := Lib.hid hb0
  replace hE := Lib.hid hE
  replace ok := Lib.hid ok
  clear BK hG hgl hlen
  go_enter Try.func37, Try.ntmps37
  go_wp2_with fail
  refine B0.out.mono ?_
  rintro e w1 ⟨g1, xs, rfl, hx1, hx2, hx3, hb1, hx4⟩
  have bw1 := Lib.hid (btrans hb0.out hb1)
  have s1 := Lib.hid (r1.out.below hb1)
  have hx1l := hx1.lt
  have hf := Lib.hid (hfin.out xs hx3)
  replace hx1 := Lib.hid hx1
  replace hx2 := Lib.hid hx2
  clear B0 hb1 r1 hb0 hfin hx3 hx4
  go_wp2_with (at_make; refine wp_makeRow rfl _ _ _ TyB (.bool false) 1 rfl Try.underlying32 infoBl rfl n rfl rfl hby.out (by decide) ?_)
  intro w2 hM hb2 hlt2
  obtain ⟨g, hg⟩ : ∃ g, g = w1.heap.size := ⟨_, rfl⟩
  rw [← hg] at hM hlt2
  have rw0 : Hid (RowAt w2 g TyB ((bhT xs es n 0 0).map .bool)) := by show RowAt _ _ _ _; rw [bhT_start, List.map_replicate]; exact hM
  have bw2 := Lib.hid (btrans bw1.out hb2)
  have t1 := Lib.hid (s1.out.below hb2)
  have tx := Lib.hid (hx1.out.below hb2)
  have hg1 : g1 < g := by omega
  have hWg : W.heap.size < g := by have := s1.out.lt; omega
  rw [← hg]
  clear hM hb2 hlt2 bw1 s1 hx1 hx1l hg hby
  go_wp2
  go_loopw [7] (fun kv wr => ∃ k : Nat, k ≤ n ∧ kv = .int .i64 k ∧ Hid (RowAt wr g TyB ((bhT xs es n k 0).map .bool)) ∧ Hid (Below W.heap.size W wr) ∧ Hid (RowAt wr W.heap.size TGr (GC none 0 0 ae n ce none 0 0)) ∧ Hid (RowAt wr g1 TyB (xs.map .bool))) (fun kv _ => n - (intOf kv).toNat)
  case atStart => exact ⟨0, Nat.zero_le _, rfl, rw0, bw2, t1, tx⟩
  case round =>
    obtain ⟨k, hk, rfl, row, lo, q1, q2⟩ := hrel
    clear rw0 bw2 t1 tx
    by_cases hkn : k < n
    · have hkn2 : (k : Int) < (n : Int) := by omega
      have hke : k < es.length := by rw [← hn.out]; exact hkn
      obtain ⟨bg, og, ar, cr, hag, _, cg, hrow⟩ := hE.out.at k hke
      obtain ⟨e1, e2, e3⟩ := ok.out.get hke
      rw [← e1] at cg hrow e2 e3
      obtain ⟨l, hl⟩ : ∃ l, l = es.getD k [] := ⟨_, rfl⟩
      rw [← hl] at cg hrow e2 e3
      have hlI : (l.length : Int) ≤ 1000000 := by omega
      replace hl := Lib.hid hl
      replace e3 := Lib.hid e3
      replace hrow := Lib.hid hrow
      subst hag
      clear e1 e2
      go_wp2
      go_loopw [8] (fun jv wr => ∃ j : Nat, j ≤ l.length ∧ jv = .int .i64 j ∧ Hid (RowAt wr g TyB ((bhT xs es n k j).map .bool)) ∧ Hid (Below W.heap.size W wr) ∧ Hid (RowAt wr W.heap.size TGr (GC none 0 0 (some ⟨bg, og, none⟩) n ce none 0 0)) ∧ Hid (RowAt wr g1 TyB (xs.map .bool))) (fun jv _ => l.length - (intOf jv).toNat)
      case atStart => exact ⟨0, Nat.zero_le _, rfl, row, lo, q1, q2⟩
      case round =>
        obtain ⟨j, hj, rfl, row, lo, q1, q2⟩ := hrel
        have x1 : wr.cell? ⟨W.heap.size, 1, none⟩ = some (.slice (some ⟨bg, og, none⟩) n ce) := q1.out.cell 1
        have cg1 := bcell lo.out cg
        by_cases hjl : j < l.length
        · have hjl2 : (j : Int) < (l.length : Int) := by omega
          obtain ⟨be, oe, har, hbl, ce0, _⟩ := hrow.out.at j hjl
          obtain ⟨u, hu⟩ : ∃ u, u = l[j] := ⟨_, rfl⟩
          rw [← hu] at ce0
          have hun : u < n := by have := e3.out u (by rw [hu]; exact List.getElem_mem hjl); have := hn.out; omega
          have huN : (u : Int) < (n : Int) := by omega
          have hgi : (es.getD k [])[j]? = some u := by rw [← hl.out, List.getElem?_eq_getElem hjl, hu]
          have hc := bcell lo.out ce0
          obtain ⟨b, hb⟩ : ∃ b, b = ((es.getD k []).take j).any (fun u => xs.getD u false) := ⟨_, rfl⟩
          have hcur : wr.cell? ⟨g, k, none⟩ = some (.bool b) := by
            rw [row.out.cell, List.getElem?_map, bhT_at hkn, hb]
            rfl
          have hfz := row.out.free k
          obtain ⟨v, hv⟩ : ∃ v, v = xs.getD u false := ⟨_, rfl⟩
          have hbk : wr.cell? ⟨g1, u, none⟩ = some (.bool v) := by
            have h3 : u < xs.length := by rw [hx2.out]; exact hun
            rw [q2.out.cell, List.getElem?_map, List.getElem?_eq_getElem h3, hv, List.getD_eq_getElem?_getD, List.getElem?_eq_getElem h3]
            rfl
          have hk9 := Keeps.set wr g k (.bool (b || v)) (S := fun j => j = g) rfl
          have n1 : Hid (RowAt (wr.setCell ⟨g, k, none⟩ (.bool (b || v))) g TyB ((bhT xs es n k (j + 1)).map .bool)) := by
            have h1 := row.out.set k (.bool (b || v))
            rw [← List.map_set] at h1
            have h2 := bhT_set (bs := xs) hkn hgi
            rw [← hb, ← hv] at h2
            rw [h2] at h1
            exact h1
          have n2 := Lib.hid (hk9.below lo.out (fun j hj => by omega))
          have n3 := Lib.hid (q1.out.keeps hk9 (by omega))
          have n4 := Lib.hid (q2.out.keeps hk9 (by omega))
          replace hk9 := Lib.hid hk9
          replace hb := Lib.hid hb
          replace hv := Lib.hid hv
          replace hun := Lib.hid hun
          subst har
          clear hu hgi ce0 row lo q1 q2
          cases b with
          | true =>
            simp only [Bool.true_or] at n1 n2 n3 n4
            go_wp2
            go_roundw
            case rel => exact ⟨j + 1, by omega, by go_num, n1, n2, n3, n4⟩
            case measure => simp [intOf]; omega
          | false =>
            simp only [Bool.false_or] at n1 n2 n3 n4
            go_wp2
            go_roundw
            case rel => exact ⟨j + 1, by omega, by go_num, n1, n2, n3, n4⟩
            case measure => simp [intOf]; omega
        · obtain rfl : j = l.length := by omega
          have row2 : Hid (RowAt wr g TyB ((bhT xs es n (k + 1) 0).map .bool)) := by have h1 := row.out; rw [hl.out, bhT_next] at h1; exact h1
          clear row
          go_wp2
          go_roundw
          case rel => exact ⟨k + 1, by omega, by go_num, row2, lo, q1, q2⟩
          case measure => simp [intOf]; omega
    · obtain rfl : k = n := by omega
      clear hkn
      go_wp2
      go_ret
      exact ⟨g, _, rfl, row.out, bhT_len _ _ _ _ _, hf.out |> fun h => by have e := hn.out; subst e; exact h, lo.out, by omega⟩
end Go.Proofs.Ytnllgigolfakpaa
