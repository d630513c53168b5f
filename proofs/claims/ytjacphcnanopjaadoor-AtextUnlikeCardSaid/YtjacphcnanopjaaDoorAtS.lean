/- An automaton under way, in memory: its box, its nodes, its numbers, all of the call's own. No conditions. -/
import Derived.Test.YtjacphcnanopjaaDoorAtV
import Derived.Test.YtjacphcnanopjaaDoorCut
namespace Go.Proofs.YtjacphcnanopjaaDoor
open Go.Shelf Go.RowKit
set_option linter.unusedVariables false
set_option linter.unusedSimpArgs false

abbrev TRd : Nat := 50
abbrev TStr : Nat := 9
abbrev TInt : Nat := 3
/-- blocks that may be turned: boxes of a type, and rows of nodes -/
def Mut (T base : Nat) (w : World) (j : Nat) : Prop := base ≤ j ∧ ∃ c fz, w.heap[j]? = some (.cells c TAn fz) ∨ w.heap[j]? = some (.cells c T fz)
def Tame (T base : Nat) (w w' : World) : Prop := Keeps w w' (Mut T base w)
theorem Tame.refl (T base : Nat) (w : World) : Tame T base w w := Keeps.refl _ _
theorem Tame.of_below {T base : Nat} {w w' : World} (h : Below w.heap.size w w') : Tame T base w w' := Keeps.of_below h
theorem Tame.trans {T base : Nat} {w w1 w2 : World} (h : Tame T base w w1) (k : Tame T base w1 w2) : Tame T base w w2 :=
  Keeps.trans h k (fun j hj hm => by
    by_cases hs : Mut T base w j
    · exact hs
    · obtain ⟨hb, c, fz, hc⟩ := hm
      rw [h.block j hj hs] at hc
      exact ⟨hb, c, fz, hc⟩)
theorem Tame.below {T base : Nat} {w w' W : World} (h : Tame T base w w') (hb : Below W.heap.size W w) (hw : W.heap.size ≤ base) : Below W.heap.size W w' := Keeps.below h hb (fun j hj => Nat.le_trans hw hj.1)
theorem Tame.box {T base g : Nat} {w w' : World} {l : List Value} (h : Keeps w w' (fun j => j = g)) (hb : base ≤ g) (r : RowAt w g T l) : Tame T base w w' :=
  ⟨h.os, h.tape, h.output, h.size, fun j hj hn => h.block j hj (fun e => hn (by subst e; exact ⟨hb, _, _, .inr r⟩))⟩
theorem Tame.nbox {T base g : Nat} {w w' : World} {l : List Value} (h : Keeps w w' (fun j => j = g)) (hb : base ≤ g) (r : RowAt w g TAn l) : Tame T base w w' :=
  ⟨h.os, h.tape, h.output, h.size, fun j hj hn => h.block j hj (fun e => hn (by subst e; exact ⟨hb, _, _, .inl r⟩))⟩
/-- what a row of the call's own is -/
theorem own_type {w : World} {base e sz n cap : Nat} {a : Option Addr} {cells : List Value} (h : OwnR w base e sz a n cap cells) {j : Nat} (hj : (Value.slice a n cap).ownBlock = some j) : base ≤ j ∧ ∃ c, w.heap[j]? = some (.cells c e (0, 0)) := by
  unfold OwnR at h
  rcases h.2 with ⟨h1, h2⟩ | ⟨g, cap', cur, h1, h2, h3, h4⟩
  · rw [h1] at hj; cases hj
  · rw [h1] at hj
    have e1 : some g = some j := hj
    injection e1 with e1
    subst e1
    exact ⟨h2, _, h3⟩
theorem Tame.app {T base : Nat} {w w' : World} {n cap : Nat} {a : Option Addr} {cells : List Value} (h : OwnR w base TAn 4 a n cap cells) (hg : w.grownBy w' (Value.slice a n cap).ownBlock) : Tame T base w w' :=
  Keeps.of_grown hg (fun j hj => by
    obtain ⟨h1, c, h2⟩ := own_type h hj
    exact ⟨h1, c, _, .inl h2⟩)
theorem OwnN.tame {T base b2 n cap : Nat} {w w' : World} {a : Option Addr} {xs : List Int} (h : OwnN .i64 w b2 TInt a n cap xs) (k : Tame T base w w') (hT : TInt ≠ T) : OwnN .i64 w' b2 TInt a n cap xs :=
  h.keeps k (fun j hj hm => by
    have h' : OwnR w b2 TInt 1 a n cap (xs.map (.int .i64)) := h
    obtain ⟨_, c, hc⟩ := own_type h' hj
    obtain ⟨_, c2, fz, h2 | h2⟩ := hm
    · rw [hc] at h2; injection h2 with h2; injection h2 with _ h2 _; exact absurd h2 (by decide)
    · rw [hc] at h2; injection h2 with h2; injection h2 with _ h2 _; exact hT h2)
theorem RowAt.tame {T base B U : Nat} {w w' : World} {l : List Value} (h : RowAt w B U l) (k : Tame T base w w') (hT : U ≠ T) (hA : U ≠ TAn) : RowAt w' B U l :=
  RowAt.keeps h k (fun hm => by
    obtain ⟨_, c2, fz, h2 | h2⟩ := hm
    · rw [show w.heap[B]? = _ from h] at h2; injection h2 with h2; injection h2 with _ h2 _; exact hA h2
    · rw [show w.heap[B]? = _ from h] at h2; injection h2 with h2; injection h2 with _ h2 _; exact hT h2)
/-- nodes' cells, their numbers in rows of the call's own -/
def NdC (w : World) (base : Nat) : List AN → List Value → Prop
  | [], cs => cs = []
  | x :: xs, cs => ∃ ta tc r, cs = anV x ta tc ++ r ∧ OwnN .i64 w base TInt ta x.to.length tc x.to ∧ NdC w base xs r
theorem NdC.tame {T base b2 : Nat} {w w' : World} (k : Tame T b2 w w') (hT : TInt ≠ T) : ∀ {xs : List AN} {cs : List Value}, NdC w base xs cs → NdC w' base xs cs
  | [], cs, h => h
  | x :: xs, cs, ⟨ta, tc, r, h1, h2, h3⟩ => ⟨ta, tc, r, h1, h2.tame k hT, NdC.tame k hT h3⟩
theorem NdC.snoc {base : Nat} {w : World} {x : AN} {ta : Option Addr} {tc : Nat} (hx : OwnN .i64 w base TInt ta x.to.length tc x.to) : ∀ {xs : List AN} {cs : List Value}, NdC w base xs cs → NdC w base (xs ++ [x]) (cs ++ anV x ta tc)
  | [], cs, h => ⟨ta, tc, [], by rw [show cs = [] from h]; simp, hx, rfl⟩
  | y :: xs, cs, ⟨tb, td, r, h1, h2, h3⟩ => ⟨tb, td, r ++ anV x ta tc, by rw [h1, List.append_assoc], h2, NdC.snoc hx h3⟩
theorem NdC.len {base : Nat} {w : World} : ∀ {xs : List AN} {cs : List Value}, NdC w base xs cs → cs.length = xs.length * 4
  | [], cs, h => by rw [show cs = [] from h]; rfl
  | x :: xs, cs, ⟨ta, tc, r, h1, h2, h3⟩ => by
    rw [h1, List.length_append, NdC.len h3, List.length_cons]
    show 4 + _ = _
    omega
theorem NdC.at {base : Nat} {w : World} : ∀ {xs : List AN} {cs : List Value}, NdC w base xs cs → ∀ i (hi : i < xs.length), ∃ ta tc, (∀ j u, (anV xs[i] ta tc)[j]? = some u → cs[i * 4 + j]? = some u) ∧ IntsAt w ta xs[i].to
  | x :: xs, cs, ⟨ta, tc, r, h1, h2, h3⟩, 0, hi => by
    refine ⟨ta, tc, fun j u hj => ?_, NumsAt.of_owns h2⟩
    change (anV x ta tc)[j]? = some u at hj
    have hl := (List.getElem?_eq_some_iff.1 hj).1
    rw [h1, Nat.zero_mul, Nat.zero_add, List.getElem?_append_left hl]
    exact hj
  | x :: xs, cs, ⟨ta, tc, r, h1, h2, h3⟩, i + 1, hi => by
    obtain ⟨tb, td, h4, h5⟩ := NdC.at h3 i (by simpa using hi)
    refine ⟨tb, td, fun j u hj => ?_, h5⟩
    have hl : (anV x ta tc).length = 4 := rfl
    rw [h1, List.getElem?_append_right (by rw [hl]; omega), hl, show (i + 1) * 4 + j - 4 = i * 4 + j by omega]
    exact h4 j u hj
/-- the automaton in its box -/
structure AuB (T : Nat) (w : World) (base g : Nat) (A : AU) (ia : Option Addr) (ic : Nat) (na : Option Addr) (nc : Nat) (cells : List Value) : Prop where
  box : RowAt w g T [.int .i64 A.sets, .slice ia A.init.length ic, .slice na A.nodes.length nc]
  lo : base ≤ g
  init : OwnN .i64 w base TInt ia A.init.length ic A.init
  own : OwnR w base TAn 4 na A.nodes.length nc cells
  nds : NdC w base A.nodes cells
theorem AuB.below {T : Nat} {w w' : World} {base g : Nat} {A : AU} {ia : Option Addr} {ic : Nat} {na : Option Addr} {nc : Nat} {cells : List Value} (h : AuB T w base g A ia ic na nc cells) (hb : Below w.heap.size w w') (hT : TInt ≠ T) : AuB T w' base g A ia ic na nc cells :=
  ⟨h.box.below hb, h.lo, h.init.tame (T := T) (base := base) (Tame.of_below hb) hT, OwnR.keeps (S := fun _ => False) h.own (Keeps.of_below hb) (fun _ _ e => e), h.nds.tame (T := T) (b2 := base) (Tame.of_below hb) hT⟩
theorem AuB.au {T : Nat} {w : World} {base g : Nat} {A : AU} {ia : Option Addr} {ic : Nat} {na : Option Addr} {nc : Nat} {cells : List Value} (h : AuB T w base g A ia ic na nc cells) : AuAt w ia A.init.length na A.nodes.length A := by
  refine ⟨rfl, rfl, NumsAt.of_owns h.init, fun h0 => ?_⟩
  obtain ⟨b, e, _, _⟩ := OwnR.addr h.own h0
  have hown := h.own
  subst e
  refine ⟨b, 0, rfl, fun i hi => ?_⟩
  obtain ⟨ta, tc, h1, h2⟩ := NdC.at h.nds i hi
  have hc : ∀ j, j < 4 → w.cell? ⟨b, 0 + i * 4 + j, none⟩ = (anV A.nodes[i] ta tc)[j]? := fun j hj => by
    rw [Nat.zero_add, OwnR.cell hown (i * 4 + j) (by omega)]
    have hl : (anV A.nodes[i] ta tc).length = 4 := rfl
    have h3 : (anV A.nodes[i] ta tc)[j]? = some ((anV A.nodes[i] ta tc)[j]'(by omega)) := List.getElem?_eq_getElem (by omega)
    rw [h1 j _ h3, h3]
  exact ⟨hc 0 (by decide), hc 1 (by decide), hc 2 (by decide), ta, tc, hc 3 (by decide), h2⟩
/-- a field of the box is written anew -/
theorem AuB.sets {T : Nat} {w w' : World} {base g : Nat} {A : AU} {ia : Option Addr} {ic : Nat} {na : Option Addr} {nc : Nat} {cells : List Value} (h : AuB T w base g A ia ic na nc cells) (hT : TInt ≠ T) (hA : TAn ≠ T) {B : AU} {ja : Option Addr} {jc : Nat} (hn : B.nodes = A.nodes) (k : Keeps w w' (fun j => j = g)) (hb : RowAt w' g T [.int .i64 B.sets, .slice ja B.init.length jc, .slice na A.nodes.length nc]) (hi : OwnN .i64 w' base TInt ja B.init.length jc B.init) : AuB T w' base g B ja jc na nc cells ∧ Tame T base w w' := by
  have tm : Tame T base w w' := Tame.box k h.lo h.box
  refine ⟨⟨by rw [hn]; exact hb, h.lo, hi, ?_, ?_⟩, tm⟩
  · rw [hn]
    refine OwnR.keeps h.own k (fun j hj e => ?_)
    obtain ⟨_, c, hc⟩ := own_type h.own hj
    rw [e, show w.heap[g]? = _ from h.box] at hc
    injection hc with hc
    injection hc with _ hc _
    exact hA hc.symm
  · rw [hn]
    exact h.nds.tame tm hT
end Go.Proofs.YtjacphcnanopjaaDoor
