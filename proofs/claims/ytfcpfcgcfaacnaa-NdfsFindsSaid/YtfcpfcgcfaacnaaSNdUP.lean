/- What a search counts, and what another budget leaves as it is: plain. No conditions. What a product's pairs are to a search: few. No conditions. The nested search, plain: what is told is a way through the product, and what is not told is not there. No conditions. -/
import Derived.Test.YtfcpfcgcfaacnaaSNdSearchP
import Derived.Test.YtfcpfcgcfaacnaaSNdSearch
import Derived.Test.YtfcpfcgcfaacnaaSPrWholeP
import Derived.Test.YtfcpfcgcfaacnaaSPrLawIn
namespace Go.Proofs.Ytfcpfcgcfaacnaa
section
variable {b c : NB} {nx : PP → List PP} {inq : PP → Bool} {p : PP → Prop} {C : Nat}
theorem comeP_cases (b : NB) (s : NS) (x : PP) : (b.n ≤ s.nodes ∧ comeP b s x = (s, some (overP s 1))) ∨ (¬ b.n ≤ s.nodes ∧ b.d < s.ot.length + 1 ∧ comeP b s x = (reachS s x, some (overP (reachS s x) 2))) ∨ (¬ b.n ≤ s.nodes ∧ ¬ b.d < s.ot.length + 1 ∧ comeP b s x = (pushS (reachS s x) x, none)) := by
 by_cases h1 : b.n ≤ s.nodes
 ·exact .inl ⟨h1, comeP_n h1⟩
 ·by_cases h2 : b.d < s.ot.length + 1
  ·exact .inr (.inl ⟨h1, h2, comeP_d h1 h2⟩)
  ·exact .inr (.inr ⟨h1, h2, comeP_ok h1 h2⟩)
end
end Go.Proofs.Ytfcpfcgcfaacnaa
namespace Go.Proofs.Ytfcpfcgcfaacnaa
open Go.RowKit
theorem nodup_natN : ∀ (n : Nat) (l : List Nat), l.Nodup → (∀ x ∈ l, x < n) → l.length ≤ n
 | 0, l, _, h => by
  cases l with
  | nil => exact Nat.le_refl _
  | cons x l => have := h x (.head _); omega
 | n + 1, l, hn, h => by
  have h1 := nodup_natN n (l.erase n) (hn.erase n) (fun x hx => by
   have h2 := (List.Nodup.mem_erase_iff hn).1 hx
   have := h x h2.2
   have := h2.1
   omega)
  by_cases hm : n ∈ l
  ·rw [List.length_erase_of_mem hm] at h1; omega
  ·rw [List.erase_of_not_mem hm] at h1; omega
theorem map_nodup {α β : Type} {f : α → β} : ∀ {l : List α}, l.Nodup → (∀ x ∈ l, ∀ y ∈ l, f x = f y → x = y) → (l.map f).Nodup
 | [], _, _ => List.nodup_nil
 | a :: l, h, hi => by
  rw [List.nodup_cons] at h
  rw [List.map_cons, List.nodup_cons]
  refine ⟨fun hm => ?_, map_nodup h.2 (fun x hx y hy => hi x (.tail _ hx) y (.tail _ hy))⟩
  obtain ⟨b, hb, e⟩ := List.mem_map.1 hm
  have := hi b (.tail _ hb) a (.head _) e
  subst this
  exact h.1 hb
def numPP (x : PP) : Nat := (x.node.toNat * 8 + x.state.toNat) * 32 + x.turn.toNat
theorem nice_of {G : GR} {sets : List (List Bool)} {A : AU} (lt : Lt G sets A) (hn : newB G sets A = true) : Nice (nextP G sets A) (vPP G sets A) 3072 := by
 obtain ⟨hs, hc⟩ : srcB G sets = true ∧ chk A = 0 := by
  unfold newB at hn
  rw [Bool.and_eq_true] at hn
  exact ⟨hn.1, of_decide_eq_true hn.2⟩
 obtain ⟨hg, h16, _⟩ := src_sets hs
 obtain ⟨c0, c16, _⟩ := chk_sets hc
 have h32 : max (allS sets A) 1 ≤ 32 := by unfold allS; omega
 have he := lt.e
 have hna := lt.n
 refine ⟨nextP_len lt, next_valid hg hc, fun l hl hp => ?_⟩
 have h1 := map_nodup (f := numPP) hl (fun x hx y hy e => by
  obtain ⟨⟨a1, a2⟩, ⟨a3, a4⟩, a5, a6⟩ := hp x hx
  obtain ⟨⟨b1, b2⟩, ⟨b3, b4⟩, b5, b6⟩ := hp y hy
  obtain ⟨xn, xs, xt⟩ := x
  obtain ⟨yn, ys, yt⟩ := y
  simp only [numPP] at e a1 a2 a3 a4 a5 a6 b1 b2 b3 b4 b5 b6
  have q1 : xn = yn := by omega
  have q2 : xs = ys := by omega
  have q3 : xt = yt := by omega
  rw [q1, q2, q3])
 have h2 := nodup_natN 3072 _ h1 (fun k hk => by
  obtain ⟨x, hx, rfl⟩ := List.mem_map.1 hk
  obtain ⟨⟨a1, a2⟩, ⟨a3, a4⟩, a5, a6⟩ := hp x hx
  unfold numPP
  omega)
 rw [List.length_map] at h2
 exact h2
theorem search_made (W0 : World) (p : Nat) (G : GR) (sets : List (List Bool)) (A : AU) (hP : PrAt W0 p G sets A) (lt : Lt G sets A) (hn : newB G sets A = true) (bn bd : Int) :
  Calls Try.prog 14 #[.pointer (some ⟨p, 0, none⟩), .agg #[.int .i64 bn, .int .i64 bd]] W0 fun e w' => ∃ v, e = .returned v ∧ Below W0.heap.size W0 w' ∧ FoundNew W0.heap.size w' v (searchP G sets A bn bd) := by
 obtain ⟨hs, hc⟩ : srcB G sets = true ∧ chk A = 0 := by
  unfold newB at hn
  rw [Bool.and_eq_true] at hn
  exact ⟨hn.1, of_decide_eq_true hn.2⟩
 obtain ⟨hg, h16, _⟩ := src_sets hs
 exact search_any W0 p G sets A hP lt 3072 (nice_of lt hn) (by decide) (fun y hy => okPP_of lt hc h16 hy) (first_valid hg hc) (firstP_len lt) bn bd
end Go.Proofs.Ytfcpfcgcfaacnaa
namespace Go.Proofs.Ytfcpfcgcfaacnaa
set_option linter.unusedVariables false
def Linked (nx : PP → List PP) (l : List PP) : Prop := ∀ i a b, l[i]? = some a → l[i + 1]? = some b → b ∈ nx a
theorem Linked.nil (nx : PP → List PP) : Linked nx [] := fun i a b h => by simp at h
theorem Linked.one (nx : PP → List PP) (x : PP) : Linked nx [x] := fun i a b _ h => by simp at h
theorem Linked.snoc {nx : PP → List PP} {l : List PP} {x : PP} (h : Linked nx l) (hx : ∀ a, l.getLast? = some a → x ∈ nx a) : Linked nx (l ++ [x]) := by
 intro i a b h1 h2
 by_cases hi : i + 1 < l.length
 ·rw [List.getElem?_append_left (by omega)] at h1
  rw [List.getElem?_append_left hi] at h2
  exact h i a b h1 h2
 ·have hb : i + 1 = l.length := by
   have := get_le h2
   rw [List.length_append, List.length_cons, List.length_nil] at this
   omega
  rw [List.getElem?_append_left (by omega)] at h1
  rw [hb, List.getElem?_append_right (Nat.le_refl _), Nat.sub_self] at h2
  simp at h2
  subst h2
  refine hx a ?_
  rw [List.getLast?_eq_getElem?, ← hb]
  exact h1
theorem Linked.left {nx : PP → List PP} {l r : List PP} (h : Linked nx (l ++ r)) : Linked nx l := by
 intro i a b h1 h2
 have q := get_le h2
 refine h i a b ?_ ?_
 ·rw [List.getElem?_append_left (by omega)]; exact h1
 ·rw [List.getElem?_append_left q]; exact h2
theorem Linked.join {nx : PP → List PP} {l : List PP} {x : PP} {r : List PP} (h : Linked nx (l ++ [x])) (k : Linked nx (x :: r)) : Linked nx (l ++ [x] ++ r) := by
 intro i a b h1 h2
 have hlen : (l ++ [x]).length = l.length + 1 := by simp
 by_cases hi : i + 1 < l.length + 1
 ·rw [List.getElem?_append_left (by omega)] at h1
  rw [List.getElem?_append_left (by omega)] at h2
  exact h i a b h1 h2
 ·have e : l ++ [x] ++ r = l ++ (x :: r) := by simp
  rw [e, List.getElem?_append_right (by omega)] at h1 h2
  rw [show i + 1 - l.length = (i - l.length) + 1 by omega] at h2
  exact k _ a b h1 h2
def NoCyc (nx : PP → List PP) (x : PP) : Prop := ∃ S : PP → Prop, (∀ y ∈ nx x, S y) ∧ (∀ y, S y → ∀ z ∈ nx y, S z) ∧ ¬ S x
def Rea (nx : PP → List PP) (first : List PP) (x : PP) : Prop := ∀ M : PP → Prop, (∀ y ∈ first, M y) → (∀ y, M y → ∀ z ∈ nx y, M z) → M x
structure JInv (nx : PP → List PP) (inq : PP → Bool) (first : List PP) (s : NS) : Prop where
 fin : ∀ x ∈ s.reached, x ∉ way s.ot → ∀ y ∈ nx x, y ∈ s.reached
 top : ∀ e ∈ s.ot, ∀ j, j < e.2 → ∀ y, (nx e.1)[j]? = some y → y ∈ s.reached
 dn : s.depth ≤ s.nodes
 mr : ∀ y ∈ s.marked, y ∈ s.reached
 mw : ∀ y ∈ s.marked, y ∉ way s.ot
 mc : ∀ y ∈ s.marked, ∀ z ∈ nx y, z ∈ s.marked
 nc : ∀ x ∈ s.reached, x ∉ way s.ot → inq x = true → NoCyc nx x
 ln : Linked nx (way s.ot)
 hd : ∀ x, (way s.ot).head? = some x → x ∈ first
 re : ∀ x ∈ s.reached, Rea nx first x
structure LassoP (nx : PP → List PP) (inq : PP → Bool) (first stem loop : List PP) : Prop where
 ne : loop ≠ []
 ln : Linked nx (stem ++ loop)
 hd : ∀ x, (stem ++ loop).head? = some x → x ∈ first
 back : ∀ x y, (stem ++ loop).getLast? = some x → loop.head? = some y → y ∈ nx x
 inn : ∃ x ∈ loop, inq x = true
structure ToldP (b : NB) (nx : PP → List PP) (inq : PP → Bool) (first : List PP) (p : PP → Prop) (e : NF) : Prop where
 kind : (e.kind = 2 ∧ e.why = 0 ∧ LassoP nx inq first e.stem e.loop) ∨ (e.kind = 3 ∧ e.stem = [] ∧ e.loop = [] ∧ ((e.why = 1 ∧ e.nodes = b.n) ∨ (e.why = 2 ∧ e.depth = b.d)))
 nb : e.nodes ≤ b.n
 db : e.depth ≤ b.d
 dn : e.depth ≤ e.nodes
 few : ∃ R : List PP, R.Nodup ∧ (∀ x ∈ R, p x) ∧ e.nodes = R.length
 ln : e.stem.length + e.loop.length ≤ e.depth + 1
 rea : ∃ R : List PP, R.Nodup ∧ e.nodes = R.length ∧ ∀ x ∈ R, Rea nx first x
structure KInv (nx : PP → List PP) (s : NS) (x0 : PP) (st : List (PP × Nat)) : Prop where
 mr : ∀ y ∈ s.marked, y ∈ s.reached
 mw : ∀ y ∈ s.marked, y ∉ way s.ot
 mc : ∀ y ∈ s.marked, y ∉ way st → ∀ z ∈ nx y, z ∈ s.marked
 tp : ∀ e ∈ st, ∀ j, j < e.2 → ∀ z, (nx e.1)[j]? = some z → z ∈ s.marked
 sn : (way st).Nodup
 sm : ∀ y ∈ way st, y = x0 ∨ y ∈ s.marked
 sb : st = [] ∨ ∃ r, way st = x0 :: r
 ex : st = [] → ∀ z ∈ nx x0, z ∈ s.marked
 ln : Linked nx (way st)
 dn : s.depth ≤ s.nodes
structure KOut (nx : PP → List PP) (s : NS) (x0 : PP) : Prop where
 nr : s.nodes = s.reached.length
 wn : (way s.ot).Nodup
 wr : ∀ x ∈ way s.ot, x ∈ s.reached
 cl : ∀ x ∈ s.reached, (x ∉ way s.ot ∨ x = x0) → ∀ y ∈ nx x, y ∈ s.reached
 lx : (way s.ot).getLast? = some x0
section
variable {b : NB} {nx : PP → List PP} {inq : PP → Bool} {first : List PP} {p : PP → Prop} {C : Nat} {s : NS} {x0 x y : PP} {k : Nat} {r : List (PP × Nat)}
theorem KInv.start (J : JInv nx inq first s) : KInv nx s x0 [(x0, 0)] := by
 refine ⟨J.mr, J.mw, fun y hy _ => J.mc y hy, fun e he j hj => ?_, by simp [way], fun y hy => .inl (by simpa [way] using hy), .inr ⟨[], by simp [way]⟩, (fun e => by cases e), by simpa [way] using Linked.one nx x0, J.dn⟩
 rw [List.mem_singleton] at he
 subst he
 exact absurd hj (Nat.not_lt_zero _)
theorem KOut.of (h : NInv b nx p s) (J : JInv nx inq first s) (ho : s.ot = (x0, k) :: r) (hk : (nx x0)[k]? = none) : KOut nx s x0 := by
 refine ⟨h.nr, h.on, h.or_, fun x hx hc y hy => ?_, by rw [ho, way_cons]; simp⟩
 rcases hc with hc | rfl
 ·exact J.fin x hx hc y hy
 ·obtain ⟨j, hj⟩ := List.mem_iff_getElem?.1 hy
  have h1 := get_le hj
  rw [List.getElem?_eq_none_iff] at hk
  exact J.top (x, k) (by rw [ho]; exact .head _) j (by show j < k; omega) y hj
theorem all_of_none {l : List PP} {k : Nat} (h : l[k]? = none) {y : PP} (hy : y ∈ l) : ∃ j, j < k ∧ l[j]? = some y := by
 obtain ⟨j, hj⟩ := List.mem_iff_getElem?.1 hy
 have h1 := get_le hj
 rw [List.getElem?_eq_none_iff] at h
 exact ⟨j, by omega, hj⟩
theorem KInv.pop (h : KInv nx s x0 ((x, k) :: r)) (hk : (nx x)[k]? = none) (ho : x0 ∉ s.marked) : KInv nx s x0 r := by
 have hw : way ((x, k) :: r) = way r ++ [x] := way_cons _ _
 have hall : ∀ z ∈ nx x, z ∈ s.marked := fun z hz => by
  obtain ⟨j, h1, h2⟩ := all_of_none hk hz
  exact h.tp (x, k) (.head _) j h1 z h2
 have hn := h.sn
 rw [hw, List.nodup_append] at hn
 refine ⟨h.mr, h.mw, fun y hy hyr z hz => ?_, fun e he => h.tp e (.tail _ he), hn.1, fun y hy => h.sm y (by rw [hw]; exact List.mem_append_left _ hy), ?_, fun hr => ?_, by have := h.ln; rw [hw] at this; exact this.left, h.dn⟩
 ·by_cases hyx : y = x
  ·subst hyx; exact hall z hz
  ·refine h.mc y hy ?_ z hz
   rw [hw, List.mem_append, List.mem_singleton]
   rintro (q | q)
   ·exact hyr q
   ·exact hyx q
 ·rcases h.sb with q | ⟨r', q⟩
  ·cases q
  ·rw [hw] at q
   cases hr : r with
   | nil => exact .inl rfl
   | cons a r2 =>
    right
    rw [← hr]
    cases hwr : way r with
    | nil => rw [hr, way_cons] at hwr; simp at hwr
    | cons u t =>
     rw [hwr, List.cons_append] at q
     injection q with q1 q2
     exact ⟨t, by rw [q1]⟩
 ·subst hr
  rcases h.sb with q | ⟨r', q⟩
  ·cases q
  ·rw [hw] at q
   simp [way] at q
   obtain ⟨rfl, _⟩ := q
   exact hall
theorem KInv.skip (h : KInv nx s x0 ((x, k) :: r)) (hy : (nx x)[k]? = some y) (hm : y ∈ s.marked) : KInv nx (edgeS s) x0 ((x, k + 1) :: r) := by
 have hw : way ((x, k + 1) :: r) = way ((x, k) :: r) := by rw [way_cons, way_cons]
 refine ⟨h.mr, h.mw, ?_, fun e he j hj z hz => ?_, ?_, ?_, ?_, (fun e => by cases e), ?_, h.dn⟩
 ·rw [hw]; exact h.mc
 ·rcases List.mem_cons.1 he with rfl | he
  ·by_cases hjk : j < k
   ·exact h.tp (x, k) (.head _) j hjk z hz
   ·have : j = k := by have : j < k + 1 := hj; omega
    subst this
    simp only at hz
    rw [hy] at hz
    injection hz with hz
    subst hz
    exact hm
  ·exact h.tp e (.tail _ he) j hj z hz
 ·rw [hw]; exact h.sn
 ·rw [hw]; exact h.sm
 ·rcases h.sb with q | ⟨r', q⟩
  ·cases q
  ·exact .inr ⟨r', by rw [hw]; exact q⟩
 ·rw [hw]; exact h.ln
theorem both_len (O : KOut nx s x0) {m : List PP} (hn : m.Nodup) (hm : ∀ y ∈ m, y ∈ s.reached ∧ y ∉ way s.ot) : s.ot.length + m.length ≤ s.nodes := by
 have h1 : (way s.ot ++ m).Nodup := by
  rw [List.nodup_append]
  refine ⟨O.wn, hn, fun a ha c hc e => ?_⟩
  subst e
  exact (hm a hc).2 ha
 have h2 := h1.length_le_of_subset (l₂ := s.reached) (fun a ha => by
  rcases List.mem_append.1 ha with q | q
  ·exact O.wr a q
  ·exact (hm a q).1)
 rw [List.length_append, way_len] at h2
 rw [O.nr]
 exact h2
theorem KInv.push (O : KOut nx s x0) (h : KInv nx s x0 ((x, k) :: r)) (hy : (nx x)[k]? = some y) (h1 : y ∉ way s.ot) (h2 : y ∉ s.marked) : KInv nx (deepS (markS (edgeS s) y) (s.ot.length + (r.length + 1))) x0 ((y, 0) :: (x, k + 1) :: r) := by
 have hw : way ((x, k + 1) :: r) = way ((x, k) :: r) := by rw [way_cons, way_cons]
 have hw2 : way ((y, 0) :: (x, k + 1) :: r) = way ((x, k) :: r) ++ [y] := by rw [way_cons, hw]
 have hx0w : x0 ∈ way s.ot := List.mem_of_getLast? O.lx
 have hyx0 : y ≠ x0 := fun e => h1 (e ▸ hx0w)
 have hys : y ∉ way ((x, k) :: r) := fun q => by
  rcases h.sm y q with e | e
  ·exact hyx0 e
  ·exact h2 e
 have hxw : x ∈ way ((x, k) :: r) := by rw [way_cons]; simp
 have hyn : y ∈ nx x := List.mem_of_getElem? hy
 have hyr : y ∈ s.reached := by
  rcases h.sm x hxw with e | e
  ·subst e; exact O.cl x (O.wr x hx0w) (.inr rfl) y hyn
  ·exact O.cl x (h.mr x e) (.inl (h.mw x e)) y hyn
 have hsn : (way ((y, 0) :: (x, k + 1) :: r)).Nodup := by rw [hw2]; exact nodup_snoc h.sn hys
 refine ⟨?_, ?_, ?_, ?_, hsn, ?_, ?_, (fun e => by cases e), ?_, ?_⟩
 ·exact all_snoc_p h.mr hyr
 ·exact all_snoc_p h.mw h1
 ·intro u hu huw z hz
  show z ∈ s.marked ++ [y]
  rcases List.mem_append.1 hu with q | q
  ·exact List.mem_append_left _ (h.mc u q (fun c => huw (by rw [hw2]; exact List.mem_append_left _ c)) z hz)
  ·rw [List.mem_singleton] at q
   subst q
   exact absurd (by rw [hw2]; simp) huw
 ·intro e he j hj z hz
  show z ∈ s.marked ++ [y]
  rcases List.mem_cons.1 he with rfl | he
  ·exact absurd hj (Nat.not_lt_zero _)
  ·rcases List.mem_cons.1 he with rfl | he
   ·by_cases hjk : j < k
    ·exact List.mem_append_left _ (h.tp (x, k) (.head _) j hjk z hz)
    ·have : j = k := by have : j < k + 1 := hj; omega
     subst this
     simp only at hz
     rw [hy] at hz
     injection hz with hz
     subst hz
     exact List.mem_append_right _ (List.mem_singleton.2 rfl)
   ·exact List.mem_append_left _ (h.tp e (.tail _ he) j hj z hz)
 ·intro u hu
  rw [hw2, List.mem_append, List.mem_singleton] at hu
  rcases hu with q | q
  ·rcases h.sm u q with e | e
   ·exact .inl e
   ·exact .inr (List.mem_append_left _ e)
  ·exact .inr (List.mem_append_right _ (List.mem_singleton.2 q))
 ·rcases h.sb with q | ⟨r', q⟩
  ·cases q
  ·exact .inr ⟨r' ++ [y], by rw [hw2, q]; rfl⟩
 ·rw [hw2]
  refine h.ln.snoc (fun a ha => ?_)
  rw [way_cons] at ha
  simp at ha
  subst ha
  exact hyn
 ·show max s.depth (s.ot.length + (r.length + 1)) ≤ s.nodes
  have hd := h.dn
  have hb : s.ot.length + (r.length + 1) ≤ s.nodes := by
   rcases h.sb with q | ⟨r', q⟩
   ·cases q
   ·have hl : (way ((x, k) :: r)).length = r.length + 1 := way_len _
    have := both_len O (m := r' ++ [y]) (by
     have h9 := hsn
     rw [hw2, q, List.cons_append] at h9
     exact (List.nodup_cons.1 h9).2) (fun u hu => by
     rcases List.mem_append.1 hu with c | c
     ·have hn := h.sn
      rw [q] at hn
      rcases h.sm u (by rw [q]; exact .tail _ c) with e | e
      ·exact absurd (e ▸ c) (List.nodup_cons.1 hn).1
      ·exact ⟨h.mr u e, h.mw u e⟩
     ·rw [List.mem_singleton] at c
      subst c
      exact ⟨hyr, h1⟩)
    rw [q, List.length_cons] at hl
    rw [List.length_append, List.length_cons, List.length_nil] at this
    omega
  omega
theorem idx_take {l : List PP} (h : y ∈ l) : l.take (l.idxOf y) ++ l.drop (l.idxOf y) = l ∧ (l.drop (l.idxOf y)).head? = some y := by
 have hi := List.idxOf_lt_length_iff.2 h
 refine ⟨List.take_append_drop _ _, ?_⟩
 rw [List.head?_drop, List.getElem?_eq_getElem hi, List.getElem_idxOf hi]
theorem KInv.lasso (O : KOut nx s x0) (J1 : Linked nx (way s.ot)) (J2 : ∀ x, (way s.ot).head? = some x → x ∈ first) (hi : inq x0 = true) (h : KInv nx s x0 ((x, k) :: r)) (hy : (nx x)[k]? = some y) (h1 : y ∈ way s.ot) :
  LassoP nx inq first ((way s.ot).take ((way s.ot).idxOf y)) ((way s.ot).drop ((way s.ot).idxOf y) ++ (way ((x, k + 1) :: r)).drop 1) := by
 have hw : way ((x, k + 1) :: r) = way ((x, k) :: r) := by rw [way_cons, way_cons]
 rw [hw]
 obtain ⟨t1, t2⟩ := idx_take h1
 obtain ⟨i, hii⟩ : ∃ i, i = (way s.ot).idxOf y := ⟨_, rfl⟩
 have hil : i < (way s.ot).length := by rw [hii]; exact List.idxOf_lt_length_iff.2 h1
 rw [← hii] at t1 t2 ⊢
 have hne : way s.ot ≠ [] := fun e => by rw [e] at h1; cases h1
 obtain ⟨L, hL⟩ : ∃ L, way s.ot = L ++ [x0] := by
  refine ⟨(way s.ot).dropLast, ?_⟩
  have q := List.dropLast_concat_getLast hne
  rw [← q]
  have : (way s.ot).getLast hne = x0 := by
   have h9 := O.lx
   rw [List.getLast?_eq_some_getLast hne] at h9
   injection h9
  rw [this]
  simp
 rcases h.sb with q | ⟨r', q⟩
 ·cases q
 rw [q, List.drop_one, List.tail_cons]
 have hall : (way s.ot).take i ++ ((way s.ot).drop i ++ r') = way s.ot ++ r' := by rw [← List.append_assoc, t1]
 have hx0 : x0 ∈ (way s.ot).drop i := by
  rw [List.mem_iff_getElem?]
  refine ⟨(way s.ot).length - 1 - i, ?_⟩
  rw [List.getElem?_drop, show i + ((way s.ot).length - 1 - i) = (way s.ot).length - 1 by omega, ← List.getLast?_eq_getElem?]
  exact O.lx
 have hlast : (way s.ot ++ r').getLast? = some x := by
  have h9 : (x0 :: r').getLast? = some x := by rw [← q, way_cons]; simp
  rw [hL, List.append_assoc]
  rw [List.singleton_append, List.getLast?_append, h9]
  rfl
 refine ⟨?_, ?_, ?_, ?_, ⟨x0, List.mem_append_left _ hx0, hi⟩⟩
 ·intro e
  rw [List.append_eq_nil_iff] at e
  rw [e.1] at hx0
  cases hx0
 ·rw [hall, hL]
  refine Linked.join (by rw [← hL]; exact J1) ?_
  rw [← q]; exact h.ln
 ·rw [hall]
  intro z hz
  refine J2 z ?_
  cases hww : way s.ot with
  | nil => exact absurd hww hne
  | cons a t => rw [hww] at hz; exact hz
 ·rw [hall]
  intro u v hu hv
  rw [hlast] at hu
  injection hu with hu
  subst hu
  have : ((way s.ot).drop i ++ r').head? = some y := by
   rw [List.head?_append, t2]; rfl
  rw [this] at hv
  injection hv with hv
  subst hv
  exact List.mem_of_getElem? hy
def InOut (b : NB) (nx : PP → List PP) (inq : PP → Bool) (first : List PP) (p : PP → Prop) (s : NS) (x0 : PP) (s1 : NS) : Option NF → Prop
 | some e => ToldP b nx inq first p e
 | none => s1.reached = s.reached ∧ s1.ot = s.ot ∧ s1.nodes = s.nodes ∧ s1.depth ≤ s1.nodes ∧ (∀ y ∈ s1.marked, y ∈ s.reached) ∧ (∀ y ∈ s1.marked, y ∉ way s.ot) ∧ (∀ y ∈ s1.marked, ∀ z ∈ nx y, z ∈ s1.marked) ∧ (∀ z ∈ nx x0, z ∈ s1.marked)
theorem innerF_told (N : Nice nx p C) (hi : inq x0 = true) : ∀ (f : Nat) (s : NS) (st : List (PP × Nat)) (s1 : NS) (o : Option NF), IInv b nx p s st → muI C s st < f → KOut nx s x0 → Linked nx (way s.ot) → (∀ x, (way s.ot).head? = some x → x ∈ first) → KInv nx s x0 st → (∀ x ∈ s.reached, Rea nx first x) → innerF b nx f s st = (s1, o) → InOut b nx inq first p s x0 s1 o := by
 intro f
 induction f with
 | zero => intro s st s1 o _ hm; omega
 | succ f ih =>
  intro s st s1 o I hm O J1 J2 K hre hr
  have hx0 : x0 ∉ s.marked := fun q => K.mw x0 q (List.mem_of_getLast? O.lx)
  match st, I, hm, K, hr with
  | [], I, hm, K, hr =>
   rw [innerF_nil] at hr
   cases hr
   exact ⟨rfl, rfl, rfl, K.dn, K.mr, K.mw, fun y hy => K.mc y hy (by simp [way]), K.ex rfl⟩
  | (x, k) :: r, I, hm, K, hr =>
   cases hy : (nx x)[k]? with
   | none =>
    rw [innerF_pop hy] at hr
    have := muI_pop N I
    exact ih s r s1 o I.pop (by omega) O J1 J2 (K.pop hy hx0) hre hr
   | some y =>
    have hk := get_le hy
    by_cases h1 : y ∈ way s.ot
    ·rw [innerF_fail hy h1] at hr
     cases hr
     refine ⟨.inl ⟨rfl, rfl, KInv.lasso (s := s) O J1 J2 hi K hy h1⟩, I.inv.nb, I.inv.db, K.dn, ⟨s.reached, I.inv.rn, I.inv.rv, I.inv.nr⟩, ?_, s.reached, I.inv.rn, I.inv.nr, hre⟩
     have a2 := I.sd
     show ((way s.ot).take _).length + ((way s.ot).drop _ ++ (way ((x, k + 1) :: r)).drop 1).length ≤ s.depth + 1
     have a3 : (way s.ot).length = s.ot.length := by simp [way]
     have a4 : (way ((x, k + 1) :: r)).length = r.length + 1 := by simp [way]
     rw [List.length_take, List.length_append, List.length_drop, List.length_drop, a3, a4]
     rw [List.length_cons] at a2
     omega
    ·by_cases h2 : y ∈ s.marked
     ·rw [innerF_skip hy h1 h2] at hr
      have := muI_skip (s := s) (r := r) N hk
      exact ih (edgeS s) _ s1 o (I.skip hk) (by omega) ⟨O.nr, O.wn, O.wr, O.cl, O.lx⟩ J1 J2 (K.skip hy h2) hre hr
     ·by_cases h3 : b.d < s.ot.length + (r.length + 1)
      ·rw [innerF_over hy h1 h2 h3] at hr
       cases hr
       refine ⟨.inr ⟨rfl, rfl, rfl, .inr ⟨rfl, ?_⟩⟩, I.inv.nb, I.inv.db, K.dn, ⟨s.reached, I.inv.rn, I.inv.rv, I.inv.nr⟩, Nat.zero_le _, s.reached, I.inv.rn, I.inv.nr, hre⟩
       have a1 := I.inv.db
       have a2 := I.sd
       rw [List.length_cons] at a2
       show s.depth = b.d
       omega
      ·rw [innerF_push hy h1 h2 h3] at hr
       have hp := N.val x y (List.mem_of_getElem? hy)
       have := muI_push N I hk h2 hp (s.ot.length + (r.length + 1))
       exact ih (deepS (markS (edgeS s) y) (s.ot.length + (r.length + 1))) _ s1 o (I.push hk h2 hp h3) (by omega) ⟨O.nr, O.wn, O.wr, O.cl, O.lx⟩ J1 J2 (K.push O hy h1 h2) hre hr
theorem JInv.start (nx : PP → List PP) (inq : PP → Bool) (first : List PP) : JInv nx inq first startS := by
 refine ⟨?_, ?_, Nat.le_refl _, ?_, ?_, ?_, ?_, ?_, ?_, ?_⟩ <;> simp [startS, way, Linked.nil]
theorem JInv.step (J : JInv nx inq first s) (ho : s.ot = (x, k) :: r) (hy : (nx x)[k]? = some y) (hr : y ∈ s.reached) : JInv nx inq first (atS (edgeS s) ((x, k + 1) :: r)) := by
 have hw : way ((x, k + 1) :: r) = way s.ot := by rw [ho, way_cons, way_cons]
 refine ⟨?_, fun e he j hj z hz => ?_, J.dn, J.mr, ?_, J.mc, ?_, ?_, ?_, J.re⟩
 ·show ∀ u ∈ s.reached, u ∉ way ((x, k + 1) :: r) → _
  rw [hw]; exact J.fin
 ·show z ∈ s.reached
  rcases List.mem_cons.1 he with rfl | he
  ·by_cases hjk : j < k
   ·exact J.top (x, k) (by rw [ho]; exact .head _) j hjk z hz
   ·have : j = k := by have : j < k + 1 := hj; omega
    subst this
    simp only at hz
    rw [hy] at hz
    injection hz with hz
    subst hz
    exact hr
  ·exact J.top e (by rw [ho]; exact .tail _ he) j hj z hz
 ·show ∀ u ∈ s.marked, u ∉ way ((x, k + 1) :: r)
  rw [hw]; exact J.mw
 ·show ∀ u ∈ s.reached, u ∉ way ((x, k + 1) :: r) → _
  rw [hw]; exact J.nc
 ·show Linked nx (way ((x, k + 1) :: r))
  rw [hw]; exact J.ln
 ·show ∀ u, (way ((x, k + 1) :: r)).head? = some u → _
  rw [hw]; exact J.hd
theorem JInv.come (J : JInv nx inq first s) (h : NInv b nx p s) (hx : x ∉ s.reached) (hf : s.ot = [] ∧ x ∈ first) : JInv nx inq first (pushS (reachS s x) x) := by
 have hd := h.ld
 have hnr := h.nr
 have hw : way ((x, 0) :: s.ot) = [x] := by rw [way_cons, hf.1]; rfl
 have hwo : way s.ot = [] := by rw [hf.1]; rfl
 refine ⟨?_, ?_, ?_, ?_, ?_, J.mc, ?_, ?_, ?_, ?_⟩
 ·intro u hu huw z hz
  show z ∈ s.reached ++ [x]
  rcases List.mem_append.1 hu with q | q
  ·exact List.mem_append_left _ (J.fin u q (by rw [hwo]; simp) z hz)
  ·rw [List.mem_singleton] at q
   subst q
   exact absurd (show u ∈ way ((u, 0) :: s.ot) by rw [hw]; simp) huw
 ·intro e he j hj
  have he2 : e ∈ (x, 0) :: s.ot := he
  rw [hf.1, List.mem_singleton] at he2
  subst he2
  exact absurd hj (Nat.not_lt_zero _)
 ·show max s.depth (s.ot.length + 1) ≤ s.nodes + 1
  have := J.dn
  rw [hf.1, List.length_nil]
  omega
 ·intro u hu
  exact List.mem_append_left _ (J.mr u hu)
 ·intro u hu
  show u ∉ way ((x, 0) :: s.ot)
  rw [hw, List.mem_singleton]
  intro e
  exact hx (e ▸ J.mr u hu)
 ·intro u hu huw hin
  rcases List.mem_append.1 hu with q | q
  ·exact J.nc u q (by rw [hwo]; simp) hin
  ·rw [List.mem_singleton] at q
   subst q
   exact absurd (show u ∈ way ((u, 0) :: s.ot) by rw [hw]; simp) huw
 ·show Linked nx (way ((x, 0) :: s.ot))
  rw [hw]; exact Linked.one nx x
 ·show ∀ u, (way ((x, 0) :: s.ot)).head? = some u → _
  rw [hw]
  intro u hu
  simp at hu
  subst hu
  exact hf.2
 ·intro u hu
  rcases List.mem_append.1 hu with q | q
  ·exact J.re u q
  ·rw [List.mem_singleton] at q
   subst q
   exact fun M h1 _ => h1 u hf.2
theorem JInv.next (J : JInv nx inq first s) (h : NInv b nx p s) (hx : y ∉ s.reached) (ho : s.ot = (x, k) :: r) (hy : (nx x)[k]? = some y) : JInv nx inq first (pushS (reachS (atS (edgeS s) ((x, k + 1) :: r)) y) y) := by
 have hw1 : way ((x, k + 1) :: r) = way s.ot := by rw [ho, way_cons, way_cons]
 have hw : way ((y, 0) :: (x, k + 1) :: r) = way s.ot ++ [y] := by rw [way_cons, hw1]
 have hlen : s.ot.length = r.length + 1 := by rw [ho]; rfl
 refine ⟨?_, ?_, ?_, ?_, ?_, J.mc, ?_, ?_, ?_, ?_⟩
 ·intro u hu huw z hz
  show z ∈ s.reached ++ [y]
  replace huw : u ∉ way ((y, 0) :: (x, k + 1) :: r) := huw
  rw [hw, List.mem_append, List.mem_singleton] at huw
  rcases List.mem_append.1 hu with q | q
  ·exact List.mem_append_left _ (J.fin u q (fun c => huw (.inl c)) z hz)
  ·rw [List.mem_singleton] at q
   exact absurd (.inr q) huw
 ·intro e he j hj z hz
  show z ∈ s.reached ++ [y]
  replace he : e ∈ (y, 0) :: (x, k + 1) :: r := he
  rcases List.mem_cons.1 he with rfl | he
  ·exact absurd hj (Nat.not_lt_zero _)
  ·rcases List.mem_cons.1 he with rfl | he
   ·by_cases hjk : j < k
    ·exact List.mem_append_left _ (J.top (x, k) (by rw [ho]; exact .head _) j hjk z hz)
    ·have : j = k := by have : j < k + 1 := hj; omega
     subst this
     simp only at hz
     rw [hy] at hz
     injection hz with hz
     subst hz
     exact List.mem_append_right _ (List.mem_singleton.2 rfl)
   ·exact List.mem_append_left _ (J.top e (by rw [ho]; exact .tail _ he) j hj z hz)
 ·show max s.depth (((x, k + 1) :: r).length + 1) ≤ s.nodes + 1
  have h1 := J.dn
  have h2 := h.on.length_le_of_subset (l₂ := s.reached) (fun a ha => h.or_ a ha)
  rw [way_len] at h2
  rw [List.length_cons]
  have := h.nr
  omega
 ·intro u hu
  exact List.mem_append_left _ (J.mr u hu)
 ·intro u hu
  show u ∉ way ((y, 0) :: (x, k + 1) :: r)
  rw [hw, List.mem_append, List.mem_singleton]
  rintro (q | q)
  ·exact J.mw u hu q
  ·exact hx (q ▸ J.mr u hu)
 ·intro u hu huw hin
  replace huw : u ∉ way ((y, 0) :: (x, k + 1) :: r) := huw
  rw [hw, List.mem_append, List.mem_singleton] at huw
  rcases List.mem_append.1 hu with q | q
  ·exact J.nc u q (fun c => huw (.inl c)) hin
  ·rw [List.mem_singleton] at q
   exact absurd (.inr q) huw
 ·show Linked nx (way ((y, 0) :: (x, k + 1) :: r))
  rw [hw]
  refine J.ln.snoc (fun a ha => ?_)
  rw [ho, way_cons] at ha
  simp at ha
  subst ha
  exact List.mem_of_getElem? hy
 ·show ∀ u, (way ((y, 0) :: (x, k + 1) :: r)).head? = some u → _
  rw [hw]
  intro u hu
  refine J.hd u ?_
  cases hc : way s.ot with
  | nil => rw [ho, way_cons] at hc; simp at hc
  | cons a t => rw [hc] at hu; exact hu
 ·intro u hu
  rcases List.mem_append.1 hu with q | q
  ·exact J.re u q
  ·rw [List.mem_singleton] at q
   subst q
   have hxr : x ∈ s.reached := h.or_ x (by rw [ho, way_cons]; simp)
   exact fun M h1 h2 => h2 x (J.re x hxr M h1 h2) u (List.mem_of_getElem? hy)
theorem JInv.pop (J : JInv nx inq first s) (h : NInv b nx p s) (ho : s.ot = (x, k) :: r) (hk : (nx x)[k]? = none) {s1 : NS} (e1 : s1.reached = s.reached) (hdn : s1.depth ≤ s1.nodes) (hmr : ∀ y ∈ s1.marked, y ∈ s.reached) (hmw : ∀ y ∈ s1.marked, y ∉ way s.ot) (hmc : ∀ y ∈ s1.marked, ∀ z ∈ nx y, z ∈ s1.marked) (hnc : inq x = true → NoCyc nx x) : JInv nx inq first (atS s1 r) := by
 have hw : way s.ot = way r ++ [x] := by rw [ho, way_cons]
 have hsub : ∀ u, u ∉ way r → u ≠ x → u ∉ way s.ot := fun u q1 q2 q => by
  rw [hw, List.mem_append, List.mem_singleton] at q
  rcases q with q | q
  ·exact q1 q
  ·exact q2 q
 refine ⟨?_, ?_, hdn, ?_, ?_, hmc, ?_, ?_, ?_, ?_⟩
 ·intro u hu huw z hz
  replace hu : u ∈ s1.reached := hu
  replace huw : u ∉ way r := huw
  show z ∈ s1.reached
  rw [e1] at hu ⊢
  by_cases hux : u = x
  ·subst hux
   obtain ⟨j, h1, h2⟩ := all_of_none hk hz
   exact J.top (u, k) (by rw [ho]; exact .head _) j h1 z h2
  ·exact J.fin u hu (hsub u huw hux) z hz
 ·intro e he j hj z hz
  show z ∈ s1.reached
  rw [e1]
  exact J.top e (by rw [ho]; exact .tail _ he) j hj z hz
 ·intro u hu
  show u ∈ s1.reached
  rw [e1]
  exact hmr u hu
 ·intro u hu q
  exact hmw u hu (by rw [hw]; exact List.mem_append_left _ q)
 ·intro u hu huw hin
  replace hu : u ∈ s1.reached := hu
  replace huw : u ∉ way r := huw
  rw [e1] at hu
  by_cases hux : u = x
  ·subst hux; exact hnc hin
  ·exact J.nc u hu (hsub u huw hux) hin
 ·show Linked nx (way r)
  have := J.ln
  rw [hw] at this
  exact this.left
 ·show ∀ u, (way r).head? = some u → _
  intro u hu
  refine J.hd u ?_
  rw [hw]
  cases hc : way r with
  | nil => rw [hc] at hu; cases hu
  | cons a t => rw [hc] at hu; exact hu
 ·intro u hu
  replace hu : u ∈ s1.reached := hu
  rw [e1] at hu
  exact J.re u hu
def OutOut (b : NB) (nx : PP → List PP) (inq : PP → Bool) (first : List PP) (p : PP → Prop) (s : NS) (s1 : NS) : Option NF → Prop
 | some e => ToldP b nx inq first p e
 | none => JInv nx inq first s1 ∧ ∀ x ∈ s.reached, x ∈ s1.reached
theorem over_told (h : NInv b nx p s) (J : s.depth ≤ s.nodes) (hre : ∀ x ∈ s.reached, Rea nx first x) {w : Nat} (hw : (w = 1 ∧ s.nodes = b.n) ∨ (w = 2 ∧ s.depth = b.d)) : ToldP b nx inq first p (overP s w) :=
 ⟨.inr ⟨rfl, rfl, rfl, hw⟩, h.nb, h.db, J, ⟨s.reached, h.rn, h.rv, h.nr⟩, Nat.zero_le _, s.reached, h.rn, h.nr, hre⟩
theorem come_told (h : NInv b nx p s) (J : s.depth ≤ s.nodes) (hre : ∀ x ∈ s.reached, Rea nx first x) (hrx : Rea nx first x) (hx : x ∉ s.reached) (hp : p x) {s1 : NS} {e : NF} (hc : comeP b s x = (s1, some e)) : ToldP b nx inq first p e := by
 rcases comeP_cases b s x with ⟨h1, hr⟩ | ⟨h1, h2, hr⟩ | ⟨h1, h2, hr⟩
 ·rw [hr] at hc; cases hc
  exact over_told h J hre (.inl ⟨rfl, by have := h.nb; omega⟩)
 ·rw [hr] at hc; cases hc
  have q1 := h.db
  have q2 := h.ld
  refine over_told (h.reach hx hp h1) (show s.depth ≤ s.nodes + 1 by omega) (all_snoc_p hre hrx) (.inr ⟨rfl, ?_⟩)
  show s.depth = b.d
  omega
 ·rw [hr] at hc; cases hc
theorem outerF_told (N : Nice nx p C) (hC : C ≤ 3200) : ∀ (f : Nat) (s s1 : NS) (o : Option NF), NInv b nx p s → JInv nx inq first s → muO C s < f → outerF b nx inq f s = (s1, o) → OutOut b nx inq first p s s1 o := by
 intro f
 induction f with
 | zero => intro s s1 o _ _ hm; omega
 | succ f ih =>
  intro s s1 o h J hm hr
  cases ho : s.ot with
  | nil => rw [outerF_nil ho] at hr; cases hr; exact ⟨J, fun x hx => hx⟩
  | cons xk r =>
   obtain ⟨x, k⟩ := xk
   cases hy : (nx x)[k]? with
   | some y =>
    have A := AdvO.of (inq := inq) N ho h rfl hm hy
    by_cases q : y ∈ s.reached
    ·rw [outerF_skip ho hy q] at hr
     exact ih (atS (edgeS s) ((x, k + 1) :: r)) _ _ A.inv (J.step ho hy q) A.mu hr
    ·cases hc : comeP b (atS (edgeS s) ((x, k + 1) :: r)) y with
     | mk s2 e =>
      cases e with
      | some e =>
       rw [outerF_end ho hy q hc] at hr
       cases hr
       exact come_told A.inv J.dn J.re (fun M h1 h2 => h2 x (J.re x (h.or_ x (by rw [ho, way_cons]; simp)) M h1 h2) y (List.mem_of_getElem? hy)) q A.py hc
      | none =>
       obtain ⟨q1, q2, q3, q4⟩ := A.come _ q hc
       rw [outerF_come ho hy q hc] at hr
       obtain ⟨_, _, e2⟩ := comeP_none hc
       have hJ : JInv nx inq first s2 := by rw [e2]; exact J.next h q ho hy
       have := ih _ _ _ q3 hJ q2 hr
       cases o with
       | some e => exact this
       | none => exact ⟨this.1, fun z hz => this.2 z (by rw [e2]; exact List.mem_append_left _ hz)⟩
   | none =>
    have A := AdvE.of (inq := inq) N ho h rfl hm hy
    cases hi : inq x with
    | false =>
     obtain ⟨q1, q2, q3⟩ := A.pop hi
     rw [outerF_pop ho hy hi] at hr
     exact ih (atS s r) _ _ q3 (J.pop h ho hy rfl J.dn J.mr J.mw J.mc (fun e => by rw [hi] at e; cases e)) q2 hr
    | true =>
     cases hc : innerF b nx FI s [(x, 0)] with
     | mk s2 e =>
      have O := KOut.of h J ho hy
      have T := innerF_told (first := first) (inq := inq) N hi FI s [(x, 0)] s2 e (IInv.start h ho) (muI_start C s x hC) O J.ln J.hd (KInv.start J) J.re hc
      cases e with
      | some e =>
       rw [outerF_fail ho hy hi hc] at hr
       cases hr
       exact T
      | none =>
       obtain ⟨t1, t2, t3, t4, t5, t6, t7, t8⟩ := T
       obtain ⟨q1, q2, q3, q4, q5, q6⟩ := A.into _ hi hc
       rw [outerF_in ho hy hi hc] at hr
       have hxw : x ∈ way s.ot := by rw [ho, way_cons]; simp
       have := ih _ _ _ q3 (J.pop h ho hy t1 t4 t5 t6 t7 (fun _ => ⟨fun z => z ∈ s2.marked, t8, t7, fun c => t6 x c hxw⟩)) q2 hr
       cases o with
       | some e => exact this
       | none => exact ⟨this.1, fun z hz => this.2 z (by show z ∈ s2.reached; rw [t1]; exact hz)⟩
structure DoneP (b : NB) (nx : PP → List PP) (inq : PP → Bool) (first : List PP) (p : PP → Prop) (e : NF) : Prop where
 kind : e.kind = 1 ∧ e.why = 0 ∧ e.stem = [] ∧ e.loop = []
 nb : e.nodes ≤ b.n
 db : e.depth ≤ b.d
 dn : e.depth ≤ e.nodes
 all : ∃ R : List PP, R.Nodup ∧ e.nodes = R.length ∧ (∀ x ∈ R, p x) ∧ (∀ x ∈ first, x ∈ R) ∧ (∀ x ∈ R, ∀ y ∈ nx x, y ∈ R) ∧ ∀ x ∈ R, inq x = true → NoCyc nx x
 rea : ∃ R : List PP, R.Nodup ∧ e.nodes = R.length ∧ ∀ x ∈ R, Rea nx first x
theorem searchF_told (N : Nice nx p C) (hC : C ≤ 3200) : ∀ (l pre : List PP) (s : NS), first = pre ++ l → (∀ x ∈ pre, x ∈ s.reached) → (∀ x ∈ l, p x) → NInv b nx p s → JInv nx inq first s → s.ot = [] → ToldP b nx inq first p (searchF b nx inq l s) ∨ DoneP b nx inq first p (searchF b nx inq l s)
 | [], pre, s, hf, hpre, _, h, J, ho => by
  right
  refine ⟨⟨rfl, rfl, rfl, rfl⟩, h.nb, h.db, J.dn, ⟨s.reached, h.rn, h.nr, h.rv, fun x hx => hpre x (by rw [hf, List.append_nil] at hx; exact hx), fun x hx => J.fin x hx (by rw [ho]; simp [way]), fun x hx => J.nc x hx (by rw [ho]; simp [way])⟩, s.reached, h.rn, h.nr, J.re⟩
 | x :: l, pre, s, hf, hpre, hl, h, J, ho => by
  have hf2 : first = (pre ++ [x]) ++ l := by rw [hf]; simp
  by_cases hx : x ∈ s.reached
  ·rw [searchF_skip hx]
   exact searchF_told N hC l (pre ++ [x]) s hf2 (all_snoc_p hpre hx) (fun y hy => hl y (.tail _ hy)) h J ho
  ·have hpx := hl x (.head _)
   cases hc : fromF b nx inq s x with
   | mk s1 o =>
    cases hcc : comeP b s x with
    | mk s2 e =>
     cases e with
     | some e =>
      have h9 := fromF_some (nx := nx) (inq := inq) hcc
      rw [h9] at hc
      cases hc
      rw [searchF_end hx h9]
      exact .inl (come_told h J.dn J.re (fun M h1 _ => h1 x (by rw [hf]; simp)) hx hpx hcc)
     | none =>
      have h9 := hc
      rw [fromF_none hcc] at h9
      obtain ⟨c1, c2, e2⟩ := comeP_none hcc
      subst e2
      have T := outerF_told (first := first) N hC FO _ s1 o (h.come hx hpx c1 c2) (J.come h hx ⟨ho, by rw [hf]; simp⟩) (muO_start C (reachS s x) x ho hC) h9
      cases o with
      | some e =>
       rw [searchF_end hx hc]
       exact .inl T
      | none =>
       rw [searchF_go hx hc]
       obtain ⟨q1, q2, _⟩ := fromF_done N hC h ho hx hpx hc
       have hin : ∀ z ∈ s.reached ++ [x], z ∈ s1.reached := T.2
       exact searchF_told N hC l (pre ++ [x]) s1 hf2 (all_snoc_p (fun z hz => hin z (List.mem_append_left _ (hpre z hz))) (hin x (List.mem_append_right _ (List.mem_singleton.2 rfl)))) (fun y hy => hl y (.tail _ hy)) q1 T.1 q2
theorem search_told (N : Nice nx p C) (hC : C ≤ 3200) (hl : ∀ x ∈ first, p x) : ToldP b nx inq first p (searchF b nx inq first startS) ∨ DoneP b nx inq first p (searchF b nx inq first startS) :=
 searchF_told N hC first [] startS rfl (fun x hx => by cases hx) hl (NInv.start b nx p) (JInv.start nx inq first) rfl
end
end Go.Proofs.Ytfcpfcgcfaacnaa
