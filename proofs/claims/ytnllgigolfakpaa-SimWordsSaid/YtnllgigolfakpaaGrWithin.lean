/- The document's within: a graph with the edges alone that stay in a set. Conditions: the bounds of a graph. -/
import Derived.Test.YtnllgigolfakpaaGrReach
import Derived.Deep.DeepCutAuto
import Derived.Deep.CutBlock
import Derived.Deep.RegionLaw
namespace Go.Proofs.Ytnllgigolfakpaa
open Go.RowKit

/-- the edges that stay in a set -/
def inZ (zs : List Bool) (v : Nat) : Bool := zs.getD v false
def wiRow (zs : List Bool) (es : List (List Nat)) (a : Nat) : List Nat := if inZ zs a = true then (es.getD a []).filter (inZ zs) else []
def wiL (zs : List Bool) (es : List (List Nat)) : List (List Nat) := (List.range es.length).map (wiRow zs es)
theorem wiL_len (zs : List Bool) (es : List (List Nat)) : (wiL zs es).length = es.length := by simp [wiL]
theorem wiL_get {zs : List Bool} {es : List (List Nat)} {a : Nat} (h : a < es.length) : (wiL zs es).getD a [] = wiRow zs es a := by simp [wiL, List.getD, h]
theorem wiRow_mem {zs : List Bool} {es : List (List Nat)} {a v : Nat} : v ∈ wiRow zs es a ↔ inZ zs a = true ∧ v ∈ es.getD a [] ∧ inZ zs v = true := by
  unfold wiRow
  by_cases h : inZ zs a = true
  · rw [if_pos h, List.mem_filter]
    simp [h]
  · rw [if_neg h]
    simp [h]
theorem wiL_ok {zs : List Bool} {es : List (List Nat)} {K : Nat} (h : GrOk K es) : GrOk K (wiL zs es) := by
  refine ⟨by rw [wiL_len]; exact h.len, fun l hl => ?_, fun l hl v hv => ?_⟩
  · obtain ⟨a, ha, rfl⟩ := List.mem_map.1 hl
    have ha : a < es.length := by simpa using ha
    obtain ⟨e1, e2, _⟩ := h.get ha
    unfold wiRow
    by_cases hz : inZ zs a = true
    · rw [if_pos hz, e1]
      exact Nat.le_trans (List.length_filter_le _ _) e2
    · rw [if_neg hz]
      exact Nat.zero_le _
  · obtain ⟨a, ha, rfl⟩ := List.mem_map.1 hl
    have ha : a < es.length := by simpa using ha
    obtain ⟨e1, _, e3⟩ := h.get ha
    have h1 := (wiRow_mem.1 hv).2.1
    rw [e1] at h1
    rw [wiL_len]
    exact e3 v h1
/-- a table while the rows are filled: rows ahead of a are done, row a as far as i -/
def wiT (zs : List Bool) (es : List (List Nat)) (a i : Nat) : List (List Nat) := (List.range es.length).map fun k => if k < a then wiRow zs es k else if k = a ∧ inZ zs a = true then ((es.getD a []).take i).filter (inZ zs) else []
theorem wiT_len (zs : List Bool) (es : List (List Nat)) (a i : Nat) : (wiT zs es a i).length = es.length := by simp [wiT]
theorem wiT_start (zs : List Bool) (es : List (List Nat)) : wiT zs es 0 0 = List.replicate es.length [] := by
  apply List.ext_getElem
  · simp [wiT]
  · intro k h1 h2
    simp [wiT]
theorem wiT_row {zs : List Bool} {es : List (List Nat)} {a i : Nat} (h : a < es.length) : (wiT zs es a i).getD a [] = if inZ zs a = true then ((es.getD a []).take i).filter (inZ zs) else [] := by simp [wiT, List.getD, h]
theorem wiT_next {zs : List Bool} {es : List (List Nat)} {a i : Nat} (h : inZ zs a = false ∨ i = (es.getD a []).length) : wiT zs es a i = wiT zs es (a + 1) 0 := by
  unfold wiT
  refine List.map_congr_left fun k _ => ?_
  simp only [List.take_zero, List.filter_nil, ite_self]
  by_cases h1 : k < a
  · have h2 : k < a + 1 := by omega
    rw [if_pos h1, if_pos h2]
  · rw [if_neg h1]
    by_cases h2 : k = a
    · subst h2
      have h3 : k < k + 1 := by omega
      rw [if_pos h3]
      unfold wiRow
      rcases h with h | h
      · have hz : ¬ inZ zs k = true := by rw [h]; simp
        rw [if_neg (fun hh => hz hh.2), if_neg hz]
      · subst h
        by_cases hz : inZ zs k = true
        · rw [if_pos ⟨rfl, hz⟩, if_pos hz, List.take_length]
        · rw [if_neg (fun hh => hz hh.2), if_neg hz]
    · have h3 : ¬ k < a + 1 := by omega
      rw [if_neg (fun hh => h2 hh.1), if_neg h3]
theorem wiT_skip {zs : List Bool} {es : List (List Nat)} {a i v : Nat} (hi : (es.getD a [])[i]? = some v) (hv : inZ zs v = false) : wiT zs es a (i + 1) = wiT zs es a i := by
  unfold wiT
  refine List.map_congr_left fun k _ => ?_
  have : ((es.getD a []).take (i + 1)).filter (inZ zs) = ((es.getD a []).take i).filter (inZ zs) := by
    rw [List.take_add_one, hi, List.filter_append]
    simp [List.filter_cons, hv]
  rw [this]
theorem wiT_put {zs : List Bool} {es : List (List Nat)} {a i v : Nat} (ha : a < es.length) (hz : inZ zs a = true) (hi : (es.getD a [])[i]? = some v) (hv : inZ zs v = true) : (wiT zs es a i).set a ((wiT zs es a i).getD a [] ++ [v]) = wiT zs es a (i + 1) := by
  rw [wiT_row ha, if_pos hz]
  apply List.ext_getElem
  · simp [wiT]
  · intro k h1 h2
    rw [List.getElem_set]
    simp only [wiT, List.getElem_map, List.getElem_range]
    by_cases hk : a = k
    · subst hk
      rw [if_pos rfl, if_neg (by omega), if_pos ⟨rfl, hz⟩, List.take_add_one, hi, List.filter_append]
      simp [List.filter_cons, hv]
    · rw [if_neg hk]
      by_cases h3 : k < a
      · rw [if_pos h3, if_pos h3]
      · rw [if_neg h3, if_neg h3, if_neg (fun hh => hk hh.1.symm), if_neg (fun hh => hk hh.1.symm)]
theorem wiT_done (zs : List Bool) (es : List (List Nat)) : wiT zs es es.length 0 = wiL zs es := by
  unfold wiT wiL
  refine List.map_congr_left fun k hk => ?_
  rw [if_pos (by simpa using hk)]
/-- an edge of what is left -/
theorem wi_edge {zs : List Bool} {es : List (List Nat)} {a v : Nat} : GE (wiL zs es) a v ↔ a < es.length ∧ inZ zs a = true ∧ GE es a v ∧ inZ zs v = true := by
  unfold GE
  by_cases ha : a < es.length
  · rw [wiL_get ha, wiRow_mem]
    simp [ha]
  · rw [List.getD_eq_getElem?_getD, List.getElem?_eq_none (by rw [wiL_len]; omega)]
    simp [ha]

set_option maxRecDepth 10000 in
set_option maxHeartbeats 4000000 in
theorem within_any (W : World) (i1 : Option Addr) (m1 c1 : Nat) (ae : Option Addr) (ce : Nat) (i2 : Option Addr) (m2 c2 : Nat) (es : List (List Nat)) (hE : GrAt W ae es) (ok : GrOk 1000000 es) (az : Option Addr) (cz : Nat) (zs : List Bool) (hZ : BsAt W az zs) (hzl : zs.length = es.length) :
    Calls Try.prog 38 #[GV i1 m1 c1 ae es.length ce i2 m2 c2, .slice az es.length cz] W fun e w' => ∃ g c, e = .returned (GV none 0 0 (some ⟨g, 0, none⟩) es.length c none 0 0) ∧ GrAt w' (some ⟨g, 0, none⟩) (wiL zs es) ∧ Below W.heap.size W w' := by
  obtain ⟨n, hn⟩ : ∃ n, n = es.length := ⟨_, rfl⟩
  have hlen := ok.len
  rw [← hn] at hlen hzl ⊢
  replace hn := Lib.hid hn
  replace hzl := Lib.hid hzl
  obtain ⟨w1, hw1⟩ : ∃ w1, w1 = (W.alloc (.cells #[.slice i1 m1 c1, .slice ae n ce, .slice i2 m2 c2] TGr)).alloc (.cells #[.slice none 0 0, .slice none 0 0, .slice none 0 0] TGr) := ⟨_, rfl⟩
  have hb1 : Below W.heap.size W w1 := by rw [hw1]; exact balloc (balloc (Below.refl _ _) _) _
  have r1 : RowAt w1 W.heap.size TGr (GC i1 m1 c1 ae n ce i2 m2 c2) := by rw [hw1]; exact (RowAt.new (w := W) #[.slice i1 m1 c1, .slice ae n ce, .slice i2 m2 c2] rfl).alloc _
  have r2 : RowAt w1 (W.heap.size + 1) TGr (GC none 0 0 none 0 0 none 0 0) := by rw [hw1]; exact RowAt.new #[.slice none 0 0, .slice none 0 0, .slice none 0 0] (by simp)
  have f1 : ((W.alloc (.cells #[.slice i1 m1 c1, .slice ae n ce, .slice i2 m2 c2] TGr)).alloc (.cells #[.slice none 0 0, .slice none 0 0, .slice none 0 0] TGr)).cell? ⟨W.heap.size, 1, none⟩ = some (.slice ae n ce) := by rw [← hw1]; exact r1.cell 1
  have hwl := r2.lt
  have hby : Hid (24 * n ≤ 281474976710656) := by show _ ≤ _; omega
  have hn2 : (n : Int) ≤ 1000000 := by omega
  have hn0 : 0 ≤ (n : Int) := by omega
  replace hb1 := Lib.hid hb1
  replace r1 := Lib.hid r1
  replace r2 := Lib.hid r2
  replace ok := Lib.hid ok
  replace hE := Lib.hid hE
  replace hZ := Lib.hid hZ
  clear hlen
  go_enter Try.func38, Try.ntmps38
  go_wp2_with (at_make; refine wp_makeRow rfl _ _ _ TEs (.slice none 0 0) 24 rfl Try.underlying57 infoEs rfl n rfl rfl hby.out (by decide) ?_)
  intro w2 hM hb2 hlt2
  have hz1 : w1.heap.size = W.heap.size + 1 + 1 := by rw [hw1]; simp
  have hb2 : Below w1.heap.size w1 w2 := by rw [hw1]; simpa using hb2
  obtain ⟨g, hg⟩ : ∃ g, g = W.heap.size + 1 + 1 := ⟨_, rfl⟩
  rw [← hg] at hM hlt2 hz1
  have tb0 := Lib.hid (TabAt.start (B := g) hM (Nat.le_refl _))
  have bw2 := Lib.hid (btrans hb1.out hb2)
  have t1 := Lib.hid (r1.out.below hb2)
  have t2 := Lib.hid (r2.out.below hb2)
  have hXg : W.heap.size + 1 < g := by omega
  have e0 : Hid (List.replicate n [] = wiT zs es 0 0) := by show _ = _; rw [wiT_start, ← hn.out]
  rw [e0.out] at tb0
  have e2 : W.heap.size + 1 + 1 = g := hg.symm
  try rw [e2]
  clear hM hb2 hlt2 hb1 r1 r2 f1 hg hwl e0 e2 hz1 hw1 hby
  go_wp2
  go_loopw [6] (fun av wr => ∃ (a : Nat) (S : Nat → Option Addr × Nat), a ≤ n ∧ av = .int .i64 a ∧ Hid (TabAt wr g g (wiT zs es a 0) S) ∧ Hid (Below W.heap.size W wr) ∧ Hid (RowAt wr W.heap.size TGr (GC i1 m1 c1 ae n ce i2 m2 c2)) ∧ Hid (RowAt wr (W.heap.size + 1) TGr (GC none 0 0 none 0 0 none 0 0))) (fun av _ => n - (intOf av).toNat)
  case atStart => exact ⟨0, _, Nat.zero_le _, rfl, tb0, bw2, t1, t2⟩
  case round =>
    obtain ⟨a, S, ha, rfl, tb, lo, q1, q2⟩ := hrel
    clear tb0 bw2 t1 t2
    have x1 : wr.cell? ⟨W.heap.size, 1, none⟩ = some (.slice ae n ce) := q1.out.cell 1
    by_cases han : a < n
    · have han2 : (a : Int) < (n : Int) := by omega
      have hae : a < es.length := by rw [← hn.out]; exact han
      obtain ⟨bg, og, ar, cr, hag, _, cg, hrow⟩ := hE.out.at a hae
      obtain ⟨e1, e2, e3⟩ := ok.out.get hae
      rw [← e1] at cg hrow e2 e3
      obtain ⟨l, hl⟩ : ∃ l, l = es.getD a [] := ⟨_, rfl⟩
      rw [← hl] at cg hrow e2 e3
      have hlI : (l.length : Int) ≤ 1000000 := by omega
      obtain ⟨bz, oz, haz, _, cz0⟩ := hZ.out.at a (by rw [hzl.out]; exact han)
      obtain ⟨za, hza⟩ : ∃ za, za = inZ zs a := ⟨_, rfl⟩
      have cza : W.cell? ⟨bz, oz + a, none⟩ = some (.bool za) := by rw [hza]; exact cz0
      replace hza := Lib.hid hza
      replace hl := Lib.hid hl
      replace e3 := Lib.hid e3
      replace e2 := Lib.hid e2
      replace hrow := Lib.hid hrow
      subst hag
      subst haz
      clear e1 cz0
      go_wp2
      clear x1
      go_loopw [7] (fun iv wr => ∃ (i : Nat) (S : Nat → Option Addr × Nat), i ≤ l.length ∧ iv = .int .i64 i ∧ Hid (TabAt wr g g (wiT zs es a i) S) ∧ Hid (Below W.heap.size W wr) ∧ Hid (RowAt wr W.heap.size TGr (GC i1 m1 c1 (some ⟨bg, og, none⟩) n ce i2 m2 c2)) ∧ Hid (RowAt wr (W.heap.size + 1) TGr (GC none 0 0 none 0 0 none 0 0))) (fun iv _ => l.length - (intOf iv).toNat)
      case atStart => exact ⟨0, S, Nat.zero_le _, rfl, tb, lo, q1, q2⟩
      case round =>
        obtain ⟨i, S, hi, rfl, tb, lo, q1, q2⟩ := hrel
        have x1 : wr.cell? ⟨W.heap.size, 1, none⟩ = some (.slice (some ⟨bg, og, none⟩) n ce) := q1.out.cell 1
        have cg1 := bcell lo.out cg
        have cz1 := bcell lo.out cza
        by_cases hil : i < l.length
        · have hil2 : (i : Int) < (l.length : Int) := by omega
          cases za with
          | false =>
            have en := wiT_next (zs := zs) (es := es) (a := a) (i := i) (.inl hza.out.symm)
            have tb2 : Hid (TabAt wr g g (wiT zs es (a + 1) 0) S) := by rw [← en]; exact tb
            clear en tb
            go_wp2
            go_roundw
            case rel => exact ⟨a + 1, S, by omega, by go_num, tb2, lo, q1, q2⟩
            case measure => simp [intOf]; omega
          | true =>
            obtain ⟨be, oe, har, hbl, ce0, ce1⟩ := hrow.out.at i hil
            obtain ⟨v, hv⟩ : ∃ v, v = l[i] := ⟨_, rfl⟩
            rw [← hv] at ce0
            have hvn : v < n := by have := e3.out v (by rw [hv]; exact List.getElem_mem hil); have := hn.out; omega
            have hvN : (v : Int) < (n : Int) := by omega
            have hgi : Hid ((es.getD a [])[i]? = some v) := by show _ = _; rw [← hl.out, List.getElem?_eq_getElem hil, hv]
            obtain ⟨bz2, oz2, haz2, _, cz2⟩ := hZ.out.at v (by rw [hzl.out]; exact hvn)
            cases haz2
            obtain ⟨zv, hzv⟩ : ∃ zv, zv = inZ zs v := ⟨_, rfl⟩
            have czv : W.cell? ⟨bz, oz + v, none⟩ = some (.bool zv) := by rw [hzv]; exact cz2
            replace hzv := Lib.hid hzv
            have czv1 := bcell lo.out czv
            have hc0 := bcell lo.out ce0
            have hc1 := bcell lo.out ce1
            replace hvn := Lib.hid hvn
            subst har
            clear hv ce0 ce1 cz2 czv
            cases zv with
            | false =>
              have en := wiT_skip hgi.out hzv.out.symm
              have tb2 : Hid (TabAt wr g g (wiT zs es a (i + 1)) S) := by rw [en]; exact tb
              clear en tb
              go_wp2
              go_roundw
              case rel => exact ⟨i + 1, S, by omega, by go_num, tb2, lo, q1, q2⟩
              case measure => simp [intOf]; omega
            | true =>
              have haL : a < (wiT zs es a i).length := by rw [wiT_len]; exact hae
              have ep := wiT_put hae hza.out.symm hgi.out hzv.out.symm
              have ct := tb.out.cell haL
              have ft := tb.out.free a
              obtain ⟨rw_, hrw⟩ : ∃ r, r = (wiT zs es a i).getD a [] := ⟨_, rfl⟩
              have ow3 := tb.out.own a haL
              have happ := fun wA (hA : Below wr.heap.size wr wA) (a' : Option Addr) (c' : Nat) w5 => tb.out.app (wA := wA) (w3 := w5) hA haL (u := v) (a' := a') (c' := c')
              rw [← hrw] at ct ow3 happ ep
              rw [ep] at happ
              obtain ⟨sa, hsa⟩ : ∃ sa, sa = (S a).1 := ⟨_, rfl⟩
              obtain ⟨sc, hsc⟩ : ∃ sc, sc = (S a).2 := ⟨_, rfl⟩
              rw [← hsa, ← hsc] at ct ow3 happ
              have hrl : rw_.length ≤ 1000000 := by
                rw [hrw, wiT_row hae, if_pos hza.out.symm, ← hl.out]
                exact Nat.le_trans (List.length_filter_le _ _) (Nat.le_trans (List.length_take_le _ _) (Nat.le_trans hi e2.out))
              have n5 : Hid (rw_.length + 1 ≤ maxLen) := by show _ ≤ _; unfold maxLen; omega
              have y5 : Hid ((rw_.length + 1) * 16 ≤ 140737488355328) := by show _ ≤ _; omega
              have OW := Lib.hid (ow3.alloc (.cells #[.int .i64 (v : Int), .int .i64 0] TE))
              have NC := Lib.hid (new_cells wr #[.int .i64 (v : Int), .int .i64 0] TE rfl)
              have OC : Hid (∀ u ∈ [Value.int .i64 (v : Int), .int .i64 0], u.oneCell' = true) := fun u hu => by simp at hu; rcases hu with rfl | rfl <;> rfl
              have hgl := tb.out.lt
              have x5 : Hid (g ≤ (wr.alloc (.cells #[.int .i64 (v : Int), .int .i64 0] TE)).heap.size) := by show _ ≤ _; simp; omega
              have hA3 := balloc (Below.refl wr.heap.size wr) (.cells #[.int .i64 (v : Int), .int .i64 0] TE)
              have ct2 := bcell hA3 ct
              have hnew : Hid (∀ a' c' w5, OwnR w5 g TE 2 a' (rw_.length + 1) c' (ecells rw_ ++ [.int .i64 (v : Int), .int .i64 0]) → (wr.alloc (.cells #[.int .i64 (v : Int), .int .i64 0] TE)).grownBy w5 (OB sa rw_.length sc) → (OB a' (rw_.length + 1) c' = OB sa rw_.length sc ∨ OB a' (rw_.length + 1) c' = some (wr.alloc (.cells #[.int .i64 (v : Int), .int .i64 0] TE)).heap.size) →
                TabAt (w5.setCell ⟨g, a, none⟩ (.slice a' (rw_.length + 1) c')) g g (wiT zs es a (i + 1)) (updS S a (a', c')) ∧ Below W.heap.size W (w5.setCell ⟨g, a, none⟩ (.slice a' (rw_.length + 1) c')) ∧ RowAt (w5.setCell ⟨g, a, none⟩ (.slice a' (rw_.length + 1) c')) W.heap.size TGr (GC i1 m1 c1 (some ⟨bg, og, none⟩) n ce i2 m2 c2) ∧ RowAt (w5.setCell ⟨g, a, none⟩ (.slice a' (rw_.length + 1) c')) (W.heap.size + 1) TGr (GC none 0 0 none 0 0 none 0 0) ∧ w5.cell? ⟨g, a, none⟩ = some (.slice sa rw_.length sc) ∧ w5.frozen? ⟨g, a, none⟩ = false) := fun a' c' w5 h1 h2 h3 => by
                obtain ⟨k1, k2, k3⟩ := happ _ hA3 a' c' w5 h1 h2 (by
                  rcases h3 with h3 | h3
                  · exact .inl h3
                  · exact .inr ⟨_, hA3.size, h3⟩)
                have hblk : ∀ j, TabBlk g (wiT zs es a i) S j → g ≤ j := fun j hj => (tb.out.blk hj).1
                have hne : OB sa rw_.length sc ≠ some g := by
                  have := tb.out.ne a haL
                  rw [← hrw, ← hsa, ← hsc] at this
                  exact this
                have rg : RowAt w5 g TEs _ := (tb.out.row.below hA3).keep (h2.block g (by have := hA3.size; omega) (fun e => hne e.symm))
                refine ⟨k1, k2.below lo.out (fun j hj => by have := hblk j hj; omega), q1.out.keeps k2 (fun hj => by have := hblk _ hj; omega), q2.out.keeps k2 (fun hj => by have := hblk _ hj; omega), ?_, rg.free a⟩
                have := rg.cell a
                rw [this, ← tb.out.row.cell a]
                exact ct
              replace hA3 := Lib.hid hA3
              replace hrl := Lib.hid hrl
              go_upto_block 3 with (fail)
              go_cut [62] (fun _ wx => ∃ a5 c5, Hid (TabAt wx g g (wiT zs es a (i + 1)) (updS S a (a5, c5))) ∧ Hid (Below W.heap.size W wx) ∧ Hid (RowAt wx W.heap.size TGr (GC i1 m1 c1 (some ⟨bg, og, none⟩) n ce i2 m2 c2)) ∧ Hid (RowAt wx (W.heap.size + 1) TGr (GC none 0 0 none 0 0 none 0 0)))
              case first =>
                have xA1 := bcell hA3.out x1
                have cgA := bcell hA3.out cg1
                have hA0 := bcell hA3.out hc0
                have hA1 := bcell hA3.out hc1
                clear happ ow3 tb q1 q2 lo hrw hsa hsc ep
                go_wp2_with fail
                go_region_law (refine step_appR ?_ (.tmp 52) (.tmp 61) 60 TE (.agg #[.int .i64 0, .int .i64 0]) 2 16 ?_ Try.underlying60 infoEd rfl (by decide) g sa rw_.length sc (ecells rw_) ?_ OW.out wr.heap.size 1 [.int .i64 (v : Int), .int .i64 0] ?_ rfl NC.out OC.out n5.out y5.out x5.out ?_; exact rfl; exact rfl; exact rfl; exact rfl; intro a5 c5 w5 ho5 hg5 hat5; obtain ⟨k1, k2, k3, k4, k6, k7⟩ := hnew.out a5 c5 w5 ho5 ⟨hg5.os, hg5.tape, hg5.output, hg5.size, hg5.block⟩ hat5; replace k1 := Lib.hid k1; replace k2 := Lib.hid k2; replace k3 := Lib.hid k3; replace k4 := Lib.hid k4)
                all_goals (
                  clear ct ct2 ft OW NC OC n5 y5 x5 hnew k6 k7
                  go_wp2_with fail
                  go_meet
                  exact ⟨_, _, k1, k2, k3, k4⟩)
              case rest =>
                obtain ⟨a5, c5, k1, k2, k3, k4⟩ := hcut
                clear ct ct2 ft OW NC OC n5 y5 x5 hnew happ ow3 tb q1 q2 lo hrw hsa hsc ep x1 cg1 cz1 czv1 hc0 hc1
                go_wp2
                go_roundw
                case rel => exact ⟨i + 1, _, by omega, by go_num, k1, k2, k3, k4⟩
                case measure => simp [intOf]; omega
        · obtain rfl : i = l.length := by omega
          have en := wiT_next (zs := zs) (es := es) (a := a) (i := l.length) (.inr (by rw [hl.out]))
          have tb2 : Hid (TabAt wr g g (wiT zs es (a + 1) 0) S) := by rw [← en]; exact tb
          clear en tb
          go_wp2
          go_roundw
          case rel => exact ⟨a + 1, S, by omega, by go_num, tb2, lo, q1, q2⟩
          case measure => simp [intOf]; omega
    · obtain rfl : a = n := by omega
      have hgr : Hid (GrAt wr (some ⟨g, 0, none⟩) (wiL zs es)) := by
        have h1 := tb.out
        rw [hn.out, wiT_done] at h1
        exact h1.gr
      have z0 : wr.cell? ⟨W.heap.size + 1, 0, none⟩ = some (.slice none 0 0) := q2.out.cell 0
      have z1 : wr.cell? ⟨W.heap.size + 1, 1, none⟩ = some (.slice none 0 0) := q2.out.cell 1
      have z2 : wr.cell? ⟨W.heap.size + 1, 2, none⟩ = some (.slice none 0 0) := q2.out.cell 2
      have v0 := q2.out.free 0
      have v1 := q2.out.free 1
      have v2 := q2.out.free 2
      have p2 := ((q2.out.set 0 (.slice none 0 0)).set 1 (.slice (some ⟨g, 0, none⟩) a a)).set 2 (.slice none 0 0)
      simp only [List.set_cons_zero, List.set_cons_succ] at p2
      have d0 := p2.cell 0
      have d1 := p2.cell 1
      have d2 := p2.cell 2
      simp only [List.getElem?_cons_zero, List.getElem?_cons_succ] at d0 d1 d2
      have hK := (((Keeps.set wr (W.heap.size + 1) 0 (.slice none 0 0) (S := fun j => j = W.heap.size + 1) rfl).trans (Keeps.set _ (W.heap.size + 1) 1 (.slice (some ⟨g, 0, none⟩) a a) (S := fun j => j = W.heap.size + 1) rfl) (fun _ _ h => h)).trans (Keeps.set _ (W.heap.size + 1) 2 (.slice none 0 0) (S := fun j => j = W.heap.size + 1) rfl) (fun _ _ h => h))
      have hgr9 : Hid (GrAt (((wr.setCell ⟨W.heap.size + 1, 0, none⟩ (.slice none 0 0)).setCell ⟨W.heap.size + 1, 1, none⟩ (.slice (some ⟨g, 0, none⟩) a a)).setCell ⟨W.heap.size + 1, 2, none⟩ (.slice none 0 0)) (some ⟨g, 0, none⟩) (wiL zs es)) := by
        have h1 := tb.out.keeps hK (fun j hj e => by have := (tb.out.blk hj).1; omega)
        rw [show wiT zs es a 0 = wiL zs es by rw [hn.out, wiT_done]] at h1
        exact h1.gr
      have hlo9 := Lib.hid (hK.below lo.out (fun j hj => by omega))
      replace hK := Lib.hid hK
      replace p2 := Lib.hid p2
      clear han tb
      go_wp2
      exact bodyPost_ret (v := .agg #[.slice none 0 0, .slice (some ⟨g, 0, none⟩) a a, .slice none 0 0]) (by simp [results, Try.results38, go_sem, d0, d1, d2]) rfl ⟨g, a, rfl, hgr9.out, hlo9.out⟩
end Go.Proofs.Ytnllgigolfakpaa
