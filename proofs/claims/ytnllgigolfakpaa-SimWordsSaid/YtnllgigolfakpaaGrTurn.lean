/- The document's Turn: a graph the other way round. Conditions: the bounds of a graph. -/
import Derived.Test.YtnllgigolfakpaaGrReach
import Derived.BigRegion
import Derived.Deep.DeepCutAuto
import Derived.Deep.CutBlock
import Derived.Deep.RegionLaw
namespace Go.Proofs.Ytnllgigolfakpaa
open Go.RowKit

/-- a table while edges are put into it the other way round -/
structure Turning (es L : List (List Nat)) (a i : Nat) : Prop where
  len : L.length = es.length
  mem : ∀ v u, v < es.length → (u ∈ L.getD v [] ↔ (u < a ∧ v ∈ es.getD u []) ∨ (u = a ∧ v ∈ (es.getD a []).take i))
  row : ∀ v, (L.getD v []).length ≤ a * 1000000 + i
theorem Turning.start (es : List (List Nat)) : Turning es (List.replicate es.length []) 0 0 := by
  refine ⟨by simp, fun v u hv => ?_, fun v => ?_⟩
  · have : (List.replicate es.length ([] : List Nat)).getD v [] = [] := by simp [List.getD, hv]
    rw [this]
    simp
  · by_cases hv : v < es.length
    · simp [List.getD, hv]
    · simp [List.getD, hv]
theorem Turning.put {es L : List (List Nat)} {a i v : Nat} (h : Turning es L a i) (hv : v < es.length) (hi : (es.getD a [])[i]? = some v) : Turning es (L.set v (L.getD v [] ++ [a])) a (i + 1) := by
  have hvL : v < L.length := by rw [h.len]; exact hv
  have e1 : (L.set v (L.getD v [] ++ [a])).getD v [] = L.getD v [] ++ [a] := by simp [List.getD, hvL]
  have e2 : ∀ k, k ≠ v → (L.set v (L.getD v [] ++ [a])).getD k [] = L.getD k [] := fun k hk => by
    simp only [List.getD_eq_getElem?_getD]
    rw [List.getElem?_set_ne (fun e => hk e.symm)]
  have htk : (es.getD a []).take (i + 1) = (es.getD a []).take i ++ [v] := by rw [List.take_add_one, hi]; rfl
  refine ⟨by simp [h.len], fun k u hk => ?_, fun k => ?_⟩
  · by_cases hkv : k = v
    · subst hkv
      rw [e1, htk]
      simp only [List.mem_append, List.mem_singleton, h.mem k u hk]
      constructor
      · rintro ((h1 | h1) | h1)
        · exact .inl h1
        · exact .inr ⟨h1.1, .inl h1.2⟩
        · exact .inr ⟨h1, .inr trivial⟩
      · rintro (h1 | ⟨h1, h2 | _⟩)
        · exact .inl (.inl h1)
        · exact .inl (.inr ⟨h1, h2⟩)
        · exact .inr h1
    · rw [e2 k hkv, htk]
      simp only [List.mem_append, List.mem_singleton, h.mem k u hk, hkv, or_false]
  · by_cases hkv : k = v
    · subst hkv
      rw [e1, List.length_append]
      have := h.row k
      simp only [List.length_cons, List.length_nil]
      omega
    · rw [e2 k hkv]
      have := h.row k
      omega
theorem Turning.next {es L : List (List Nat)} {a : Nat} (h : Turning es L a (es.getD a []).length) (hl : (es.getD a []).length ≤ 1000000) : Turning es L (a + 1) 0 := by
  refine ⟨h.len, fun v u hv => ?_, fun v => ?_⟩
  · rw [h.mem v u hv, List.take_length]
    simp only [List.take_zero, List.not_mem_nil, and_false, or_false]
    constructor
    · rintro (⟨h1, h2⟩ | ⟨rfl, h2⟩)
      · exact ⟨by omega, h2⟩
      · exact ⟨by omega, h2⟩
    · rintro ⟨h1, h2⟩
      rcases Nat.lt_succ_iff_lt_or_eq.1 h1 with h3 | rfl
      · exact .inl ⟨h3, h2⟩
      · exact .inr ⟨rfl, h2⟩
  · rw [Nat.add_mul, Nat.one_mul, Nat.add_zero]
    exact Nat.le_trans (h.row v) (Nat.add_le_add_left hl _)
/-- the graph the other way round -/
def IsTurn (es L : List (List Nat)) : Prop := GrOk 1000000000000 L ∧ L.length = es.length ∧ ∀ v u, v < es.length → (u ∈ L.getD v [] ↔ u < es.length ∧ v ∈ es.getD u [])
theorem Turning.done {es L : List (List Nat)} (h : Turning es L es.length 0) (hn : es.length ≤ 1000000) : IsTurn es L := by
  have hm : ∀ v u, v < es.length → (u ∈ L.getD v [] ↔ u < es.length ∧ v ∈ es.getD u []) := fun v u hv => by
    rw [h.mem v u hv]
    simp
  refine ⟨⟨by rw [h.len]; exact hn, fun l hl => ?_, fun l hl u hu => ?_⟩, h.len, hm⟩
  · obtain ⟨v, hv, rfl⟩ := List.mem_iff_getElem.1 hl
    have h1 := h.row v
    rw [List.getD_eq_getElem?_getD, List.getElem?_eq_getElem hv, Nat.add_zero] at h1
    simp only [Option.getD_some] at h1
    have h2 : es.length * 1000000 ≤ 1000000000000 := Nat.le_trans (Nat.mul_le_mul_right _ hn) (by simp)
    exact Nat.le_trans h1 h2
  · obtain ⟨v, hv, rfl⟩ := List.mem_iff_getElem.1 hl
    have hv2 : v < es.length := by rw [← h.len]; exact hv
    have h1 := (hm v u hv2).1 (by rw [List.getD_eq_getElem?_getD, List.getElem?_eq_getElem hv]; exact hu)
    rw [h.len]
    exact h1.1
/-- a way in the turned graph is one back -/
theorem IsTurn.way {es L : List (List Nat)} (h : IsTurn es L) (hok : ∀ l ∈ es, ∀ v ∈ l, v < es.length) {u v : Nat} : Way0 (GE L) All u v ↔ Way0 (GE es) All v u := by
  have e1 : ∀ a b, GE L a b → GE es b a := fun a b hab => by
    unfold GE at hab ⊢
    by_cases ha : a < es.length
    · exact ((h.2.2 a b ha).1 hab).2
    · rw [List.getD_eq_getElem?_getD, List.getElem?_eq_none (by rw [h.2.1]; omega)] at hab
      simp at hab
  have e2 : ∀ a b, GE es a b → GE L b a := fun a b hab => by
    unfold GE at hab ⊢
    by_cases ha : a < es.length
    · have hb : b < es.length := by
        rw [List.getD_eq_getElem?_getD, List.getElem?_eq_getElem ha] at hab
        exact hok _ (List.getElem_mem ha) b hab
      exact (h.2.2 b a hb).2 ⟨ha, hab⟩
    · rw [List.getD_eq_getElem?_getD, List.getElem?_eq_none (by omega)] at hab
      simp at hab
  have mono : ∀ {E F : Nat → Nat → Prop} {p q : Nat}, (∀ a b, E a b → F a b) → Way E All p q → Way F All p q := by
    intro E F p q hef hw
    obtain ⟨n, hw⟩ := hw
    refine ⟨n, ?_⟩
    induction n generalizing p with
    | zero => exact ⟨trivial, hef _ _ hw.2.1, trivial⟩
    | succ n ih =>
      obtain ⟨r, _, a, b⟩ := hw
      exact ⟨r, trivial, hef _ _ a, ih b⟩
  constructor
  · rintro (rfl | hw)
    · exact .inl rfl
    · exact .inr (mono (fun a b hab => e1 b a hab) hw.turn)
  · rintro (rfl | hw)
    · exact .inl rfl
    · exact .inr (mono (fun a b hab => e2 b a hab) hw.turn)

theorem RowAt.drewK {w : World} {B T : Nat} {l : List Value} (h : RowAt w B T l) : RowAt w.drew B T l := h
set_option maxRecDepth 10000 in
set_option maxHeartbeats 4000000 in
theorem turn_any (W : World) (ae : Option Addr) (ce : Nat) (es : List (List Nat)) (hE : GrAt W ae es) (ok : GrOk 1000000 es) :
    Calls Try.prog 44 #[GV none 0 0 ae es.length ce none 0 0] W fun e w' => ∃ i1 c1 g c i2 c2 L, e = .returned (GV i1 0 c1 (some ⟨g, 0, none⟩) es.length c i2 0 c2) ∧ IsTurn es L ∧ GrAt w' (some ⟨g, 0, none⟩) L ∧ Below W.heap.size W w' := by
  obtain ⟨n, hn⟩ : ∃ n, n = es.length := ⟨_, rfl⟩
  have hlen := ok.len
  rw [← hn] at hlen ⊢
  replace hn := Lib.hid hn
  obtain ⟨w1, hw1⟩ : ∃ w1, w1 = (W.alloc (.cells #[.slice none 0 0, .slice ae n ce, .slice none 0 0] TGr)).alloc (.cells #[.slice none 0 0, .slice none 0 0, .slice none 0 0] TGr) := ⟨_, rfl⟩
  have hb1 : Below W.heap.size W w1 := by rw [hw1]; exact balloc (balloc (Below.refl _ _) _) _
  have r1 : RowAt w1 W.heap.size TGr (GC none 0 0 ae n ce none 0 0) := by rw [hw1]; exact (RowAt.new (w := W) #[.slice none 0 0, .slice ae n ce, .slice none 0 0] rfl).alloc _
  have r2 : RowAt w1 (W.heap.size + 1) TGr (GC none 0 0 none 0 0 none 0 0) := by rw [hw1]; exact RowAt.new #[.slice none 0 0, .slice none 0 0, .slice none 0 0] (by simp)
  have x0 : w1.cell? ⟨W.heap.size, 0, none⟩ = some (.slice none 0 0) := r1.cell 0
  have x1 : w1.cell? ⟨W.heap.size, 1, none⟩ = some (.slice ae n ce) := r1.cell 1
  have x2 : w1.cell? ⟨W.heap.size, 2, none⟩ = some (.slice none 0 0) := r1.cell 2
  have yA0 : ∀ o, (w1.alloc o).cell? ⟨W.heap.size, 0, none⟩ = some (.slice none 0 0) := fun o => bcell (balloc (Below.refl _ _) o) x0
  have yA2 : ∀ o, (w1.alloc o).cell? ⟨W.heap.size, 2, none⟩ = some (.slice none 0 0) := fun o => bcell (balloc (Below.refl _ _) o) x2
  have yB0 : ∀ o o2, ((w1.alloc o).alloc o2).cell? ⟨W.heap.size, 0, none⟩ = some (.slice none 0 0) := fun o o2 => bcell (balloc (balloc (Below.refl _ _) o) o2) x0
  have yB2 : ∀ o o2, ((w1.alloc o).alloc o2).cell? ⟨W.heap.size, 2, none⟩ = some (.slice none 0 0) := fun o o2 => bcell (balloc (balloc (Below.refl _ _) o) o2) x2
  have yC0 : ∀ o o2 o3, (((w1.alloc o).alloc o2).alloc o3).cell? ⟨W.heap.size, 0, none⟩ = some (.slice none 0 0) := fun o o2 o3 => bcell (balloc (balloc (balloc (Below.refl _ _) o) o2) o3) x0
  have yC2 : ∀ o o2 o3, (((w1.alloc o).alloc o2).alloc o3).cell? ⟨W.heap.size, 2, none⟩ = some (.slice none 0 0) := fun o o2 o3 => bcell (balloc (balloc (balloc (Below.refl _ _) o) o2) o3) x2
  go_enter Try.func44, Try.ntmps44
  go_wp2
  rw [← hw1]
  replace hb1 := Lib.hid hb1
  replace r1 := Lib.hid r1
  replace r2 := Lib.hid r2
  replace ok := Lib.hid ok
  replace hE := Lib.hid hE
  clear hw1
  go_cut [3] (fun p wx => ∃ (B3 : Nat) (a : Option Addr) (c : Nat) (a2 : Option Addr) (c2 : Nat), p = .pointer (some ⟨B3, 0, none⟩) ∧ RowAt wx B3 TGr [.slice a 0 c, .slice none 0 0, .slice a2 0 c2] ∧ Below w1.heap.size w1 wx ∧ w1.heap.size ≤ B3)
  case first =>
    go_region
    all_goals
      go_wp2_with fail
      go_meet
      first
        | exact ⟨_, _, _, _, _, rfl, RowAt.drewK (RowAt.new #[_, _, _] (by simp)), (balloc (balloc (balloc (Below.refl _ _) _) _) _).drew, by omega⟩
        | exact ⟨_, _, _, _, _, rfl, RowAt.drewK (RowAt.alloc (RowAt.new #[_, _, _] (by simp)) _), (balloc (balloc (balloc (Below.refl _ _) _) _) _).drew, by omega⟩
        | exact ⟨_, _, _, _, _, rfl, RowAt.drewK (RowAt.alloc (RowAt.alloc (RowAt.new #[_, _, _] (by simp)) _) _), (balloc (balloc (balloc (Below.refl _ _) _) _) _).drew, by omega⟩
  case rest =>
    obtain ⟨B3, a3, c3, a4, c4, rfl, r3, hbc, hB3⟩ := hcut
    have hbw := btrans hb1.out hbc
    have s1 := r1.out.below hbc
    have s2 := r2.out.below hbc
    have f1 : wc.cell? ⟨W.heap.size, 1, none⟩ = some (.slice ae n ce) := s1.cell 1
    have hby : Hid (24 * n ≤ 281474976710656) := by show _ ≤ _; omega
    have hwl := r2.out.lt
    have hw1l : w1.heap.size ≤ wc.heap.size := hbc.size
    have hn2 : (n : Int) ≤ 1000000 := by omega
    have hn0 : 0 ≤ (n : Int) := by omega
    clear hlen x0 x1 x2 yA0 yA2 yB0 yB2 yC0 yC2 r1 r2 hb1 hbc
    replace hbw := Lib.hid hbw
    replace s1 := Lib.hid s1
    replace s2 := Lib.hid s2
    replace r3 := Lib.hid r3
    go_wp2_with (at_make; refine wp_makeRow rfl _ _ _ TEs (.slice none 0 0) 24 rfl Try.underlying57 infoEs rfl n rfl rfl hby.out (by decide) ?_)
    intro w2 hM hb2 hlt2
    obtain ⟨g, hg⟩ : ∃ g, g = wc.heap.size := ⟨_, rfl⟩
    rw [← hg] at hM hlt2
    have hBg : B3 < g := by have := r3.out.lt; omega
    have tb0 := Lib.hid (TabAt.start (B := g) hM (Nat.le_refl _))
    have bw2 := Lib.hid (btrans hbw.out hb2)
    have t1 := Lib.hid (s1.out.below hb2)
    have t2 := Lib.hid (s2.out.below hb2)
    have t3 := Lib.hid (r3.out.below hb2)
    have hXg : W.heap.size + 1 < g := by omega
    have tn0 : Hid (Turning es (List.replicate n []) 0 0) := by have := Turning.start es; rwa [← hn.out] at this
    rw [← hg]
    have hneB0 : Hid (W.heap.size + 1 < B3) := by show _ < _; omega
    clear hM hb2 hlt2 hbw s1 s2 r3 f1 hg hwl hw1l hB3
    go_wp2
    go_loopw [5] (fun av wr => ∃ (a : Nat) (L : List (List Nat)) (S : Nat → Option Addr × Nat), a ≤ n ∧ av = .int .i64 a ∧ Hid (Turning es L a 0) ∧ Hid (TabAt wr g g L S) ∧ Hid (Below W.heap.size W wr) ∧ Hid (RowAt wr W.heap.size TGr (GC none 0 0 ae n ce none 0 0)) ∧ Hid (RowAt wr (W.heap.size + 1) TGr (GC none 0 0 none 0 0 none 0 0)) ∧ Hid (RowAt wr B3 TGr [.slice a3 0 c3, .slice none 0 0, .slice a4 0 c4])) (fun av _ => n - (intOf av).toNat)
    case atStart => exact ⟨0, _, _, Nat.zero_le _, rfl, tn0, tb0, bw2, t1, t2, t3⟩
    case round =>
      obtain ⟨a, L, S, ha, rfl, tn, tb, lo, q1, q2, q3⟩ := hrel
      clear tn0 tb0 bw2 t1 t2 t3
      have x1 : wr.cell? ⟨W.heap.size, 1, none⟩ = some (.slice ae n ce) := q1.out.cell 1
      by_cases han : a < n
      · have han2 : (a : Int) < (n : Int) := by omega
        have hae : a < es.length := by rw [← hn.out]; exact han
        obtain ⟨bg, og, ar, cr, hag, _, cg, hrow⟩ := hE.out.at a hae
        obtain ⟨e1, e2, e3⟩ := ok.out.get hae
        rw [← e1] at cg hrow e2 e3
        obtain ⟨l, hl⟩ : ∃ l, l = es.getD a [] := ⟨_, rfl⟩
        rw [← hl] at cg hrow e2 e3
        have hlI : (l.length : Int) ≤ 1000000 := by omega
        have cg1 := bcell lo.out cg
        replace hl := Lib.hid hl
        replace e3 := Lib.hid e3
        replace e2 := Lib.hid e2
        replace hrow := Lib.hid hrow
        subst hag
        clear e1
        go_wp2
        clear x1 cg1
        go_loopw [6] (fun iv wr => ∃ (i : Nat) (L : List (List Nat)) (S : Nat → Option Addr × Nat), i ≤ l.length ∧ iv = .int .i64 i ∧ Hid (Turning es L a i) ∧ Hid (TabAt wr g g L S) ∧ Hid (Below W.heap.size W wr) ∧ Hid (RowAt wr W.heap.size TGr (GC none 0 0 (some ⟨bg, og, none⟩) n ce none 0 0)) ∧ Hid (RowAt wr (W.heap.size + 1) TGr (GC none 0 0 none 0 0 none 0 0)) ∧ Hid (RowAt wr B3 TGr [.slice a3 0 c3, .slice none 0 0, .slice a4 0 c4])) (fun iv _ => l.length - (intOf iv).toNat)
        case atStart => exact ⟨0, L, S, Nat.zero_le _, rfl, tn, tb, lo, q1, q2, q3⟩
        case round =>
          obtain ⟨i, L, S, hi, rfl, tn, tb, lo, q1, q2, q3⟩ := hrel
          have x0 : wr.cell? ⟨W.heap.size, 0, none⟩ = some (.slice none 0 0) := q1.out.cell 0
          have x1 : wr.cell? ⟨W.heap.size, 1, none⟩ = some (.slice (some ⟨bg, og, none⟩) n ce) := q1.out.cell 1
          have x2 : wr.cell? ⟨W.heap.size, 2, none⟩ = some (.slice none 0 0) := q1.out.cell 2
          have cg1 := bcell lo.out cg
          by_cases hil : i < l.length
          · have hil2 : (i : Int) < (l.length : Int) := by omega
            obtain ⟨be, oe, har, hbl, ce0, ce1⟩ := hrow.out.at i hil
            obtain ⟨v, hv⟩ : ∃ v, v = l[i] := ⟨_, rfl⟩
            rw [← hv] at ce0
            have hvn : v < n := by have := e3.out v (by rw [hv]; exact List.getElem_mem hil); have := hn.out; omega
            have hvN : (v : Int) < (n : Int) := by omega
            have hgi : (es.getD a [])[i]? = some v := by rw [← hl.out, List.getElem?_eq_getElem hil, hv]
            have hvL : v < L.length := by rw [tn.out.len, ← hn.out]; exact hvn
            have tn2 := Lib.hid (tn.out.put (by rw [← hn.out]; exact hvn) hgi)
            have hc0 := bcell lo.out ce0
            have hc1 := bcell lo.out ce1
            have NY := Lib.hid (fun w => node_yes none 0 0 (some ⟨bg, og, none⟩) n ce none 0 0 w v hvn)
            have hA := balloc (Below.refl wr.heap.size wr) (.cells #[.int .i64 (v : Int), .int .i64 0] TE)
            have xA0 := bcell hA x0
            have xA1 := bcell hA x1
            have xA2 := bcell hA x2
            have rE := RowAt.new (w := wr) (T := TE) #[.int .i64 (v : Int), .int .i64 0] rfl
            have cE0 : (wr.alloc (.cells #[.int .i64 (v : Int), .int .i64 0] TE)).cell? ⟨wr.heap.size, 0, none⟩ = some (.int .i64 (v : Int)) := rE.cell 0
            replace hA := Lib.hid hA
            replace rE := Lib.hid rE
            replace hvn := Lib.hid hvn
            subst har
            clear hv hgi ce0 ce1
            go_upto_block 3 with (fail)
            go_cut [62] (fun _ wx => ∃ a5 c5, Hid (TabAt wx g g (L.set v (L.getD v [] ++ [a])) (updS S v (a5, c5))) ∧ Hid (Below W.heap.size W wx) ∧ Hid (RowAt wx W.heap.size TGr (GC none 0 0 (some ⟨bg, og, none⟩) n ce none 0 0)) ∧ Hid (RowAt wx (W.heap.size + 1) TGr (GC none 0 0 none 0 0 none 0 0)) ∧ Hid (RowAt wx B3 TGr [.slice a3 0 c3, .slice none 0 0, .slice a4 0 c4]))
            case first =>
              go_wp2_with fail
              refine (NY.out _).mono ?_
              rintro e w3 ⟨rfl, hb3⟩
              have bA := Lib.hid (btrans hA.out hb3)
              have rE3 := rE.out.below hb3
              have tb3 := tb.out.below bA.out
              have cE0 : w3.cell? ⟨wr.heap.size, 0, none⟩ = some (.int .i64 (v : Int)) := rE3.cell 0
              have cE1 : w3.cell? ⟨wr.heap.size, 1, none⟩ = some (.int .i64 0) := rE3.cell 1
              have ct := tb3.cell hvL
              have ft := tb3.free v
              obtain ⟨rw_, hrw⟩ : ∃ r, r = L.getD v [] := ⟨_, rfl⟩
              have ow3 := tb3.own v hvL
              have happ := fun wA (hA : Below w3.heap.size w3 wA) (a' : Option Addr) (c' : Nat) w5 => tb3.app (wA := wA) (w3 := w5) hA hvL (u := a) (a' := a') (c' := c')
              rw [← hrw] at ct ow3 happ
              obtain ⟨sa, hsa⟩ : ∃ sa, sa = (S v).1 := ⟨_, rfl⟩
              obtain ⟨sc, hsc⟩ : ∃ sc, sc = (S v).2 := ⟨_, rfl⟩
              rw [← hsa, ← hsc] at ct ow3 happ
              have hrl : rw_.length ≤ a * 1000000 + i := by rw [hrw]; exact tn.out.row v
              have hrl2 : rw_.length ≤ 1000001000000 := by
                have h1 := e2.out
                have h2 := hn.out
                have h3 := ok.out.len
                omega
              have n5 : Hid (rw_.length + 1 ≤ maxLen) := by show _ ≤ _; unfold maxLen; omega
              have y5 : Hid ((rw_.length + 1) * 16 ≤ 140737488355328) := by show _ ≤ _; omega
              have OW := Lib.hid (ow3.alloc (.cells #[.int .i64 (a : Int), .int .i64 0] TE))
              have NC := Lib.hid (new_cells w3 #[.int .i64 (a : Int), .int .i64 0] TE rfl)
              have OC : Hid (∀ u ∈ [Value.int .i64 (a : Int), .int .i64 0], u.oneCell' = true) := fun u hu => by simp at hu; rcases hu with rfl | rfl <;> rfl
              have hgl := tb3.lt
              have x5 : Hid (g ≤ (w3.alloc (.cells #[.int .i64 (a : Int), .int .i64 0] TE)).heap.size) := by show _ ≤ _; simp; omega
              have hA3 := balloc (Below.refl w3.heap.size w3) (.cells #[.int .i64 (a : Int), .int .i64 0] TE)
              have ct2 := bcell hA3 ct
              have cF0 := bcell hA3 cE0
              have cF1 := bcell hA3 cE1
              have hnew : Hid (∀ a' c' w5, OwnR w5 g TE 2 a' (rw_.length + 1) c' (ecells rw_ ++ [.int .i64 (a : Int), .int .i64 0]) → (w3.alloc (.cells #[.int .i64 (a : Int), .int .i64 0] TE)).grownBy w5 (OB sa rw_.length sc) → (OB a' (rw_.length + 1) c' = OB sa rw_.length sc ∨ OB a' (rw_.length + 1) c' = some (w3.alloc (.cells #[.int .i64 (a : Int), .int .i64 0] TE)).heap.size) →
                TabAt (w5.setCell ⟨g, v, none⟩ (.slice a' (rw_.length + 1) c')) g g (L.set v (rw_ ++ [a])) (updS S v (a', c')) ∧ Below W.heap.size W (w5.setCell ⟨g, v, none⟩ (.slice a' (rw_.length + 1) c')) ∧ RowAt (w5.setCell ⟨g, v, none⟩ (.slice a' (rw_.length + 1) c')) W.heap.size TGr (GC none 0 0 (some ⟨bg, og, none⟩) n ce none 0 0) ∧ RowAt (w5.setCell ⟨g, v, none⟩ (.slice a' (rw_.length + 1) c')) (W.heap.size + 1) TGr (GC none 0 0 none 0 0 none 0 0) ∧ RowAt (w5.setCell ⟨g, v, none⟩ (.slice a' (rw_.length + 1) c')) B3 TGr [.slice a3 0 c3, .slice none 0 0, .slice a4 0 c4] ∧ w5.cell? ⟨g, v, none⟩ = some (.slice sa rw_.length sc) ∧ w5.frozen? ⟨g, v, none⟩ = false ∧ w5.cell? ⟨wr.heap.size, 0, none⟩ = some (.int .i64 (v : Int)) ∧ w5.cell? ⟨wr.heap.size, 1, none⟩ = some (.int .i64 0)) := fun a' c' w5 h1 h2 h3 => by
                obtain ⟨k1, k2, k3⟩ := happ _ hA3 a' c' w5 h1 h2 (by
                  rcases h3 with h3 | h3
                  · exact .inl h3
                  · exact .inr ⟨_, hA3.size, h3⟩)
                have hblk : ∀ j, TabBlk g L S j → g ≤ j := fun j hj => (tb3.blk hj).1
                have hne : OB sa rw_.length sc ≠ some g := by
                  have := tb3.ne v hvL
                  rw [← hrw, ← hsa, ← hsc] at this
                  exact this
                have hltS : ∀ j, OB sa rw_.length sc = some j → j < wr.heap.size := fun j hj => by
                  have := (tb.out.own v hvL).lt (j := j)
                  rw [← hrw, ← hsa, ← hsc] at this
                  exact (this hj).2
                have rE5 : RowAt w5 wr.heap.size TE [.int .i64 (v : Int), .int .i64 0] := (rE3.below hA3).keep (h2.block _ (by have := rE3.lt; have := hA3.size; omega) (fun e => by have := hltS _ e.symm; omega))
                have rg : RowAt w5 g TEs _ := (tb3.row.below hA3).keep (h2.block g (by have := hA3.size; omega) (fun e => hne e.symm))
                refine ⟨k1, k2.below (btrans lo.out bA.out) (fun j hj => by have := hblk j hj; omega), (q1.out.below bA.out).keeps k2 (fun hj => by have := hblk _ hj; omega), (q2.out.below bA.out).keeps k2 (fun hj => by have := hblk _ hj; omega), (q3.out.below bA.out).keeps k2 (fun hj => by have := hblk _ hj; omega), ?_, rg.free v, rE5.cell 0, rE5.cell 1⟩
                have := rg.cell v
                rw [this, ← tb3.row.cell v]
                exact ct
              have hvL' : (v : Int) < (n : Int) := hvN
              replace tb3 := Lib.hid tb3
              replace ow3 := Lib.hid ow3
              replace happ := Lib.hid happ
              replace hA3 := Lib.hid hA3
              replace hrw := Lib.hid hrw
              replace hsa := Lib.hid hsa
              replace hsc := Lib.hid hsc
              replace hrl := Lib.hid hrl
              replace hrl2 := Lib.hid hrl2
              replace rE3 := Lib.hid rE3
              clear hb3 NY happ x0 x1 x2 cg1 xA0 xA1 xA2 hc0 hc1 rE hA ow3 tn tb q1 q2 q3 lo

              go_wp2_with fail
              go_region_law (refine step_appR ?_ (.tmp 57) (.tmp 62) 60 TE (.agg #[.int .i64 0, .int .i64 0]) 2 16 ?_ Try.underlying60 infoEd rfl (by decide) g sa rw_.length sc (ecells rw_) ?_ OW.out w3.heap.size 1 [.int .i64 (a : Int), .int .i64 0] ?_ rfl NC.out OC.out n5.out y5.out x5.out ?_; exact rfl; exact rfl; exact rfl; exact rfl; intro a5 c5 w5 ho5 hg5 hat5; obtain ⟨k1, k2, k3, k4, k5, k6, k7, k8, k9⟩ := hnew.out a5 c5 w5 ho5 ⟨hg5.os, hg5.tape, hg5.output, hg5.size, hg5.block⟩ hat5; replace k1 := Lib.hid k1; replace k2 := Lib.hid k2; replace k3 := Lib.hid k3; replace k4 := Lib.hid k4; replace k5 := Lib.hid k5)
              all_goals (
                clear ct ct2 ft cE0 cE1 cF0 cF1 OW NC OC n5 y5 x5 hnew k6 k7 k8 k9
                go_wp2_with fail
                go_meet
                exact ⟨_, _, by rw [← hrw.out]; exact k1, k2, k3, k4, k5⟩)
            case rest =>
              obtain ⟨a5, c5, k1, k2, k3, k4, k5⟩ := hcut
              clear x0 x1 x2 cg1 xA0 xA1 xA2 hc0 hc1 rE hA NY cE0 tn tb q1 q2 q3 lo
              go_wp2
              go_roundw
              case rel => exact ⟨i + 1, _, _, by omega, by go_num, tn2, k1, k2, k3, k4, k5⟩
              case measure => simp [intOf]; omega
          · obtain rfl : i = l.length := by omega
            have tn2 : Hid (Turning es L (a + 1) 0) := by have h1 := tn.out; rw [hl.out] at h1; exact h1.next (by rw [← hl.out]; exact e2.out)
            clear tn
            go_wp2
            go_roundw
            case rel => exact ⟨a + 1, L, S, by omega, by go_num, tn2, tb, lo, q1, q2, q3⟩
            case measure => simp [intOf]; omega
      · obtain rfl : a = n := by omega
        have hT : Hid (IsTurn es L) := by have h1 := tn.out; rw [hn.out] at h1; exact h1.done ok.out.len
        have hLn : Hid (L.length = a) := by show _ = _; rw [tn.out.len]; exact hn.out.symm
        have hgr := Lib.hid tb.out.gr
        have q3s := q3.out.set 1 (.slice (some ⟨g, 0, none⟩) a a)
        have hneB : B3 ≠ W.heap.size + 1 := by have := hneB0.out; omega
        have q2s := q2.out.kset hneB 1 (.slice (some ⟨g, 0, none⟩) a a)
        have y1 : wr.cell? ⟨B3, 1, none⟩ = some (.slice none 0 0) := q3.out.cell 1
        have u1 := q3.out.free 1
        have y0 : (wr.setCell ⟨B3, 1, none⟩ (.slice (some ⟨g, 0, none⟩) a a)).cell? ⟨B3, 0, none⟩ = some (.slice a3 0 c3) := q3s.cell 0
        have y1' : (wr.setCell ⟨B3, 1, none⟩ (.slice (some ⟨g, 0, none⟩) a a)).cell? ⟨B3, 1, none⟩ = some (.slice (some ⟨g, 0, none⟩) a a) := q3s.cell 1
        have y2 : (wr.setCell ⟨B3, 1, none⟩ (.slice (some ⟨g, 0, none⟩) a a)).cell? ⟨B3, 2, none⟩ = some (.slice a4 0 c4) := q3s.cell 2
        have z0 : (wr.setCell ⟨B3, 1, none⟩ (.slice (some ⟨g, 0, none⟩) a a)).cell? ⟨W.heap.size + 1, 0, none⟩ = some (.slice none 0 0) := q2s.cell 0
        have z1 : (wr.setCell ⟨B3, 1, none⟩ (.slice (some ⟨g, 0, none⟩) a a)).cell? ⟨W.heap.size + 1, 1, none⟩ = some (.slice none 0 0) := q2s.cell 1
        have z2 : (wr.setCell ⟨B3, 1, none⟩ (.slice (some ⟨g, 0, none⟩) a a)).cell? ⟨W.heap.size + 1, 2, none⟩ = some (.slice none 0 0) := q2s.cell 2
        have v0 := q2s.free 0
        have v1 := q2s.free 1
        have v2 := q2s.free 2
        have hk9 : Hid (∀ w9, Keeps wr w9 (fun j => j = B3 ∨ j = W.heap.size + 1) → GrAt w9 (some ⟨g, 0, none⟩) L ∧ Below W.heap.size W w9) := fun w9 hk9 => by
          refine ⟨?_, hk9.below lo.out (fun j hj => by have := hneB0.out; omega)⟩
          have h1 := tb.out.keeps hk9 (fun j hj e => by have := (tb.out.blk hj).1; omega)
          exact h1.gr
        replace q3s := Lib.hid q3s
        replace q2s := Lib.hid q2s
        clear han tn tb
        have p0 := q2s.out.set 0 (.slice a3 0 c3)
        have p1 := p0.set 1 (.slice (some ⟨g, 0, none⟩) a a)
        have p2 := p1.set 2 (.slice a4 0 c4)
        simp only [List.set_cons_zero, List.set_cons_succ] at p2
        have d0 := p2.cell 0
        have d1 := p2.cell 1
        have d2 := p2.cell 2
        simp only [List.getElem?_cons_zero, List.getElem?_cons_succ] at d0 d1 d2
        have hK := hk9.out _ (((((Keeps.set wr B3 1 (.slice (some ⟨g, 0, none⟩) a a) (S := fun j => j = B3 ∨ j = W.heap.size + 1) (.inl rfl)).trans (Keeps.set _ (W.heap.size + 1) 0 (.slice a3 0 c3) (S := fun j => j = B3 ∨ j = W.heap.size + 1) (.inr rfl)) (fun _ _ h => h)).trans (Keeps.set _ (W.heap.size + 1) 1 (.slice (some ⟨g, 0, none⟩) a a) (S := fun j => j = B3 ∨ j = W.heap.size + 1) (.inr rfl)) (fun _ _ h => h)).trans (Keeps.set _ (W.heap.size + 1) 2 (.slice a4 0 c4) (S := fun j => j = B3 ∨ j = W.heap.size + 1) (.inr rfl)) (fun _ _ h => h)))
        replace hK := Lib.hid hK
        replace p0 := Lib.hid p0
        replace p1 := Lib.hid p1
        replace p2 := Lib.hid p2
        go_wp2
        exact bodyPost_ret (v := .agg #[.slice a3 0 c3, .slice (some ⟨g, 0, none⟩) a a, .slice a4 0 c4]) (by simp [results, Try.results44, go_sem, d0, d1, d2]) rfl ⟨a3, c3, g, a, a4, c4, L, rfl, hT.out, hK.out.1, hK.out.2⟩
end Go.Proofs.Ytnllgigolfakpaa
