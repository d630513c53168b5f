/- A part's text where it must bind so much, walked. Conditions: short texts. -/
import Derived.Test.YtkehfolcfcbplaaGreatDoorSLtW4
import Derived.Test.YtkehfolcfcbplaaGreatDoorSLtMay
import Derived.Test.YtkehfolcfcbplaaGreatDoorSLtS
namespace Go.Proofs.YtkehfolcfcbplaaGreatDoor
open Go.RowKit
set_option linter.unusedVariables false
set_option linter.unusedSimpArgs false
theorem str_app (l r : List UInt8) : (⟨l.toArray⟩ : ByteArray) ++ ⟨r.toArray⟩ = ⟨(l ++ r).toArray⟩ := by
 apply ByteArray.ext
 rw [ByteArray.data_append, List.append_toArray]
theorem str_sz (l : List UInt8) : (⟨l.toArray⟩ : ByteArray).size = l.length := by
 show l.toArray.size = _
 rw [List.size_toArray]
theorem at_any (w : World) (s : List UInt8) (b least : Nat) (hs : s.length ≤ 100000) :
  Calls Tryz.prog 31 #[.agg #[.string ⟨s.toArray⟩, .int .i64 (b : Int)], .int .i64 (least : Int)] w fun e w' => e = .returned (.string ⟨(brk least s b).toArray⟩) ∧ Below w.heap.size w w' := by
 obtain ⟨res, hres⟩ : ∃ res : ByteArray, res = ⟨(brk least s b).toArray⟩ := ⟨_, rfl⟩
 rw [← hres]
 unfold brk at hres
 have hb1 : Hid (Below w.heap.size w (w.alloc (.cells #[.string ⟨s.toArray⟩, .int .i64 (b : Int)] 69))) := balloc (Below.refl _ _) _
 have hz := str_sz s
 have e1 : (⟨#[40]⟩ : ByteArray) ++ ⟨s.toArray⟩ ++ ⟨#[41]⟩ = ⟨(40 :: (s ++ [41])).toArray⟩ := by
  rw [show (⟨#[40]⟩ : ByteArray) = ⟨[(40 : UInt8)].toArray⟩ from rfl, show (⟨#[41]⟩ : ByteArray) = ⟨[(41 : UInt8)].toArray⟩ from rfl, str_app, str_app]
  rfl
 have e2 : ¬ b < least → res = ⟨s.toArray⟩ := fun h => by rw [hres, if_neg h]
 generalize (⟨s.toArray⟩ : ByteArray) = q at hb1 hz e1 e2 ⊢
 have hqI : (q.size : Int) ≤ 100000 := by omega
 by_cases h : b < least
 ·rw [if_pos h] at hres
  have hI : (b : Int) < (least : Int) := by omega
  have hr : Hid (res = (⟨#[40]⟩ : ByteArray) ++ q ++ ⟨#[41]⟩) := by
   show _ = _
   rw [hres, e1]
  have h40 : ((⟨#[40]⟩ : ByteArray).size : Int) = 1 := rfl
  have h41 : ((⟨#[41]⟩ : ByteArray).size : Int) = 1 := rfl
  have h4q : ((⟨#[40]⟩ ++ q : ByteArray).size : Int) ≤ 100001 := by rw [ByteArray.size_append]; have : (⟨#[40]⟩ : ByteArray).size = 1 := rfl; omega
  clear hres e1 e2 hz h hs
  go_enter Tryz.func31, Tryz.ntmps31
  go_wp2
  go_ret
  exact ⟨by rw [hr.out]; rfl, hb1.out⟩
 ·have hI : ¬ (b : Int) < (least : Int) := by omega
  have hr : Hid (res = q) := by
   show _ = _
   exact e2 h
  clear hres e1 e2 hz h hs
  go_enter Tryz.func31, Tryz.ntmps31
  go_wp2
  go_ret
  exact ⟨by rw [hr.out]; rfl, hb1.out⟩
theorem frame114 (arr : Array Value) (h : arr.size = 114) : ∃ q : Nat → Value, arr = #[q 0, q 1, q 2, q 3, q 4, q 5, q 6, q 7, q 8, q 9, q 10, q 11, q 12, q 13, q 14, q 15, q 16, q 17, q 18, q 19, q 20, q 21, q 22, q 23, q 24, q 25, q 26, q 27, q 28, q 29, q 30, q 31, q 32, q 33, q 34, q 35, q 36, q 37, q 38, q 39, q 40, q 41, q 42, q 43, q 44, q 45, q 46, q 47, q 48, q 49, q 50, q 51, q 52, q 53, q 54, q 55, q 56, q 57, q 58, q 59, q 60, q 61, q 62, q 63, q 64, q 65, q 66, q 67, q 68, q 69, q 70, q 71, q 72, q 73, q 74, q 75, q 76, q 77, q 78, q 79, q 80, q 81, q 82, q 83, q 84, q 85, q 86, q 87, q 88, q 89, q 90, q 91, q 92, q 93, q 94, q 95, q 96, q 97, q 98, q 99, q 100, q 101, q 102, q 103, q 104, q 105, q 106, q 107, q 108, q 109, q 110, q 111, q 112, q 113] := by
 refine ⟨fun i => arr.toList.getD i undef, ?_⟩
 have h1 := list_getN (l := arr.toList) (n := 114) (by simpa using h)
 apply Array.ext'
 exact h1
abbrev TPc : Nat := 69
theorem infoPc : (Tryz.prog.info? TPc).map (·.size) = some 2 := by kernel_rfl
theorem infoPc3 : (Tryz.prog.info? TPc).map (fun i => (i.zero, i.size, i.bytes)) = some (some (.agg #[.string ⟨#[]⟩, .int .i64 0]), 2, 24) := by kernel_rfl
theorem undPc : ∃ d, Tryz.prog.underlying TPc = some d ∧ d.isRow = true := und_row (by kernel_rfl)
theorem infoHow : (Tryz.prog.info? THow).map (·.size) = some 4 := by kernel_rfl
theorem step_loadM {T : Nat} (hd : ∃ d, Tryz.prog.underlying T = some d ∧ d.isRow = true) {w : World} {b off : Nat} {l : List Value} (hr : w.rangeAt b off l) (hi : (Tryz.prog.info? T).map (·.size) = some l.length) {o : Oper} {a : Act} {Y : Nat → Option Bool} {K : Act → World → Prop} {Q : Exit → Act → World → Prop} {E : Prop} (hg : o.guard = none) (x : Nat) (ho : o.op = .load T (.tmp x)) (hx : a.tmps.getD x undef = .pointer (some ⟨b, off, none⟩)) (hK : K (a.put o.dst (.agg l.toArray)) w) : if Region.wanted o Y = true then Oper.wp Tryz.prog o a w K Q else E := by
 obtain ⟨d, h1, h2⟩ := hd
 rw [if_pos (by unfold Region.wanted; rw [hg])]
 exact wp_load_mid T (.tmp x) ho b off (eval_of hx) l d hr h1 h2 hi hK
def pcV (nm : Int → List UInt8) (t : Fm) : List Value := [.string ⟨(txt nm t).toArray⟩, .int .i64 (bindsP t.head.1 : Int)]
def pcs (nm : Int → List UInt8) (S : List Fm) : List Value := S.reverse.flatMap (pcV nm)
theorem pcs_cons (nm : Int → List UInt8) (t : Fm) (S : List Fm) : pcs nm (t :: S) = pcs nm S ++ pcV nm t := by simp [pcs]
theorem pcs_len (nm : Int → List UInt8) : ∀ S : List Fm, (pcs nm S).length = S.length * 2
 | [] => rfl
 | t :: S => by rw [pcs_cons, List.length_append, pcs_len nm S, List.length_cons]; show S.length * 2 + 2 = _; omega
theorem pcs_top {nm : Int → List UInt8} {w : World} {B g n c : Nat} {t : Fm} {S : List Fm} (h : OwnR w B TPc 2 (some ⟨g, 0, none⟩) n c (pcs nm (t :: S))) (hn : n = S.length + 1) : w.rangeAt g (S.length * 2) (pcV nm t) := fun j v hj => by
 have hj2 : j < 2 := (List.getElem?_eq_some_iff.1 hj).1
 have h1 := OwnR.cell h (S.length * 2 + j) (by omega)
 rw [pcs_cons, List.getElem?_append_right (by rw [pcs_len]; omega), pcs_len, Nat.add_sub_cancel_left, hj] at h1
 exact h1
theorem pcs_below {nm : Int → List UInt8} {w : World} {B g n c : Nat} {t u : Fm} {S : List Fm} (h : OwnR w B TPc 2 (some ⟨g, 0, none⟩) n c (pcs nm (t :: u :: S))) (hn : n = S.length + 2) : w.rangeAt g (S.length * 2) (pcV nm u) := fun j v hj => by
 have hj2 : j < 2 := (List.getElem?_eq_some_iff.1 hj).1
 have h1 := OwnR.cell h (S.length * 2 + j) (by omega)
 rw [pcs_cons, pcs_cons, List.append_assoc, List.getElem?_append_right (by rw [pcs_len]; omega), pcs_len, Nat.add_sub_cancel_left, List.getElem?_append_left (by show j < 2; exact hj2), hj] at h1
 exact h1
theorem pcs_take {nm : Int → List UInt8} (t : Fm) (S : List Fm) : (pcs nm (t :: S)).take (S.length * 2) = pcs nm S := by
 rw [pcs_cons, List.take_append_of_le_length (by rw [pcs_len]; exact Nat.le_refl _), List.take_of_length_le (by rw [pcs_len]; exact Nat.le_refl _)]
theorem pcs_take2 {nm : Int → List UInt8} (t u : Fm) (S : List Fm) : (pcs nm (t :: u :: S)).take (S.length * 2) = pcs nm S := by
 rw [pcs_cons, List.take_append_of_le_length (by rw [pcs_len, List.length_cons]; omega), pcs_take]
theorem way_at {op : Int} (h : 0 ≤ takesP op) : ∃ k : Nat, op = k ∧ k < 13 ∧ waysL[k]? = some (wordP op, (bindsP op : Int), (if takesP op = 2 then (leftP op : Int) else 0), (if takesP op = 0 then 0 else (rightP op : Int))) := by
 have hx : op = 1 ∨ op = 2 ∨ op = 3 ∨ op = 4 ∨ op = 5 ∨ op = 6 ∨ op = 7 ∨ op = 8 ∨ op = 9 ∨ op = 10 ∨ op = 11 ∨ op = 12 := by
  unfold takesP at h
  split at h
  ·omega
  ·split at h
   ·omega
   ·split at h
    ·omega
    ·omega
 rcases hx with rfl | rfl | rfl | rfl | rfl | rfl | rfl | rfl | rfl | rfl | rfl | rfl
 ·exact ⟨1, rfl, by decide, rfl⟩
 ·exact ⟨2, rfl, by decide, rfl⟩
 ·exact ⟨3, rfl, by decide, rfl⟩
 ·exact ⟨4, rfl, by decide, rfl⟩
 ·exact ⟨5, rfl, by decide, rfl⟩
 ·exact ⟨6, rfl, by decide, rfl⟩
 ·exact ⟨7, rfl, by decide, rfl⟩
 ·exact ⟨8, rfl, by decide, rfl⟩
 ·exact ⟨9, rfl, by decide, rfl⟩
 ·exact ⟨10, rfl, by decide, rfl⟩
 ·exact ⟨11, rfl, by decide, rfl⟩
 ·exact ⟨12, rfl, by decide, rfl⟩
theorem Door.way {w : World} (hd : Door w) {k : Nat} {r : WayP} (hk : k < 13) (h : waysL[k]? = some r) : w.rangeAt 0 (k * 4) (wayV r) := fun j u hj => by
 have hj4 : j < 4 := (List.getElem?_eq_some_iff.1 hj).1
 have hk2 : k < waysL.length := hk
 have h1 := hd.ways (k * 4 + j) (by omega)
 have h2 : waysL[k] = r := by
  rw [List.getElem?_eq_getElem hk2] at h
  exact Option.some.inj h
 rw [wayVals_at waysL k j hk2 hj4, h2, hj] at h1
 exact h1
structure StkI (N : List (List UInt8)) (f : List Nd) (t0 : Fm) (i : Nat) (S : List Fm) : Prop where
 ok : ∀ t ∈ S, OkN N t
 wr : wrongG (f.drop i) S.length = 0
 fin : stackT (f.drop i) S = [t0]
 cat : catT S = f.take i
theorem StkI.step {N : List (List UInt8)} {f : List Nd} {t0 : Fm} {i : Nat} {S : List Fm} (h : StkI N f t0 i S) (hi : i < f.length) (HN : f[i].1 = 3 → f[i].2 < N.length ∧ mayP N f[i].2.toNat = true) :
  (takesP f[i].1 = 0 ∧ (f[i].1 = 3 → 0 ≤ f[i].2) ∧ StkI N f t0 (i + 1) (.leaf f[i] :: S)) ∨ (takesP f[i].1 = 1 ∧ ∃ u S1, S = u :: S1 ∧ StkI N f t0 (i + 1) (.un f[i] u :: S1)) ∨ (takesP f[i].1 = 2 ∧ ∃ u v S1, S = v :: u :: S1 ∧ StkI N f t0 (i + 1) (.bin f[i] u v :: S1)) := by
 obtain ⟨h1, h2, h3, h4⟩ := h
 rw [List.drop_eq_getElem_cons hi] at h2 h3
 obtain ⟨x, hxf⟩ : ∃ x, x = f[i] := ⟨_, rfl⟩
 rw [← hxf] at h2 h3 HN ⊢
 rw [wrongG] at h2
 split at h2
 ·cases h2
 ·split at h2
  ·cases h2
  ·split at h2
   ·cases h2
   ·rename_i e1 e2 e3
    obtain ⟨g1, g2, g3⟩ := step_good (fun t ht => (h1 t ht).1) e1 e2 e3
    rw [← g2] at h2
    have h3' : stackT (f.drop (i + 1)) (stepT x S) = [t0] := h3
    have hc : catT (stepT x S) = f.take (i + 1) := by rw [g3, h4, List.take_succ_eq_append_getElem hi, hxf]
    rcases takes_le x.1 with h | h | h | h
    ·omega
    ·left
     have e : stepT x S = .leaf x :: S := by unfold stepT; rw [if_pos h]
     rw [e] at g1 h2 h3' hc
     refine ⟨h, fun e4 => by omega, fun t ht => ⟨g1 t ht, ?_⟩, h2, h3', hc⟩
     rcases List.mem_cons.1 ht with rfl | ht
     ·exact HN
     ·exact (h1 t ht).2
    ·right; left
     cases S with
     | nil => simp only [List.length_nil] at e2; omega
     | cons u S1 =>
      have e : stepT x (u :: S1) = .un x u :: S1 := by unfold stepT; rw [if_neg (by omega), if_pos h]
      rw [e] at g1 h2 h3' hc
      refine ⟨h, u, S1, rfl, fun t ht => ⟨g1 t ht, ?_⟩, h2, h3', hc⟩
      rcases List.mem_cons.1 ht with rfl | ht
      ·exact (h1 u (List.mem_cons_self ..)).2
      ·exact (h1 t (List.mem_cons_of_mem _ ht)).2
    ·right; right
     match S, h1, e2, g1, h2, h3', hc with
     | [], _, e2, _, _, _, _ => simp only [List.length_nil] at e2; omega
     | [a], _, e2, _, _, _, _ => simp only [List.length_cons, List.length_nil] at e2; omega
     | v :: u :: S1, h1, _, g1, h2, h3', hc =>
      have e : stepT x (v :: u :: S1) = .bin x u v :: S1 := by unfold stepT; rw [if_neg (by omega), if_neg (by omega)]
      rw [e] at g1 h2 h3' hc
      refine ⟨h, u, v, S1, rfl, fun t ht => ⟨g1 t ht, ?_⟩, h2, h3', hc⟩
      rcases List.mem_cons.1 ht with rfl | ht
      ·exact ⟨(h1 u (List.mem_cons_of_mem _ (List.mem_cons_self ..))).2, (h1 v (List.mem_cons_self ..)).2⟩
      ·exact (h1 t (List.mem_cons_of_mem _ (List.mem_cons_of_mem _ ht))).2
theorem catT_le {S : List Fm} {t : Fm} (h : t ∈ S) : t.post.length ≤ (catT S).length := by
 induction S with
 | nil => cases h
 | cons u S ih =>
  rw [catT, List.length_append]
  rcases List.mem_cons.1 h with rfl | h
  ·omega
  ·have := ih h; omega
theorem StkI.short {N : List (List UInt8)} {f : List Nd} {t0 : Fm} {i : Nat} {S : List Fm} (h : StkI N f t0 i S) (hl : f.length ≤ 24) {t : Fm} (ht : t ∈ S) : (txt (nmP N) t).length ≤ 480 := by
 have h1 := catT_le ht
 rw [h.cat, List.length_take] at h1
 have h2 := (txt_len (nmP N) t (goodNm_of N t (h.ok t ht).2)).1
 omega
end Go.Proofs.YtkehfolcfcbplaaGreatDoor
