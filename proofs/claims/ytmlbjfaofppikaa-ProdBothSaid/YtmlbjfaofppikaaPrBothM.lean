/- What ProdBoth makes: the automaton without its sets, and rows of truths. No conditions. -/
import Derived.Test.YtmlbjfaofppikaaPrBothP
import Derived.Test.YtmlbjfaofppikaaPrSome
import Derived.Test.YtmlbjfaofppikaaPrWholeLaw
namespace Go.Proofs.Ytmlbjfaofppikaa
open Go.RowKit

/-! rows of truths that a call puts one behind the other -/
abbrev TBl : Nat := 65
theorem infoBl : (Try.prog.info? TBl).map (fun i => (i.zero, i.size, i.bytes)) = some (some (.slice none 0 0), 1, 24) := by kernel_rfl
abbrev BR := Option Addr × Nat × List Bool
abbrev blob (s : BR) : Option Nat := OB s.1 s.2.2.length s.2.1
abbrev blcell (s : BR) : Value := .slice s.1 s.2.2.length s.2.1
def boolsOf (S : List BR) : List (List Bool) := S.map fun s => s.2.2
theorem boolsOf_snoc (S : List BR) (s : BR) : boolsOf (S ++ [s]) = boolsOf S ++ [s.2.2] := by simp [boolsOf]
theorem boolsOf_len (S : List BR) : (boolsOf S).length = S.length := by simp [boolsOf]
structure BlOwn (w : World) (base : Nat) (a : Option Addr) (cap : Nat) (S : List BR) : Prop where
  own : OwnR w base TBl 1 a S.length cap (S.map blcell)
  rows : ∀ s ∈ S, OwnR w base TyB 1 s.1 s.2.2.length s.2.1 (bcells s.2.2)
  ne : ∀ s ∈ S, ∀ j, blob s = some j → OB a S.length cap ≠ some j
/-- the blocks of rows -/
def BlBlk (a : Option Addr) (cap : Nat) (S : List BR) (j : Nat) : Prop := OB a S.length cap = some j ∨ ∃ s ∈ S, blob s = some j
section
variable {w w' : World} {base : Nat} {a : Option Addr} {cap : Nat} {S : List BR}
theorem BlOwn.nil (w : World) (base : Nat) : BlOwn w base none 0 [] := ⟨OwnR.nil _ _ _ _, by simp, by simp⟩
theorem BlOwn.blk (h : BlOwn w base a cap S) {j : Nat} (hj : BlBlk a cap S j) : base ≤ j ∧ j < w.heap.size := by
  rcases hj with hj | ⟨s, hs, hj⟩
  · exact OwnR.lt h.own hj
  · exact OwnR.lt (h.rows s hs) hj
theorem BlOwn.keeps {T : Nat → Prop} (h : BlOwn w base a cap S) (hk : Keeps w w' T) (hn : ∀ j, BlBlk a cap S j → ¬ T j) : BlOwn w' base a cap S :=
  ⟨OwnR.keeps h.own hk (fun j hj => hn j (.inl hj)), fun s hs => OwnR.keeps (h.rows s hs) hk (fun j hj => hn j (.inr ⟨s, hs, hj⟩)), h.ne⟩
theorem BlOwn.below (h : BlOwn w base a cap S) (hb : Below w.heap.size w w') : BlOwn w' base a cap S := h.keeps (T := fun _ => False) (Keeps.of_below hb) (fun _ _ h => h)
/-- one row more -/
theorem BlOwn.app (h : BlOwn w base a cap S) {s : BR} (hs : OwnR w base TyB 1 s.1 s.2.2.length s.2.1 (bcells s.2.2)) (hne : ∀ j, blob s = some j → OB a S.length cap ≠ some j) {wA w3 : World} (hA : Below w.heap.size w wA) {a' : Option Addr} {cap' : Nat}
    (ho : OwnR w3 base TBl 1 a' (S.length + 1) cap' (S.map blcell ++ [blcell s])) (hg : wA.grownBy w3 (OB a S.length cap)) (hat : OB a' (S.length + 1) cap' = OB a S.length cap ∨ OB a' (S.length + 1) cap' = some wA.heap.size) : BlOwn w3 base a' cap' (S ++ [s]) := by
  have hk : Keeps w w3 (fun j => OB a S.length cap = some j) := (Keeps.of_below (S := fun j => OB a S.length cap = some j) hA).trans (Keeps.of_grown (S := fun j => OB a S.length cap = some j) hg (fun j e => e)) (fun _ _ h => h)
  have hl : (S ++ [s]).length = S.length + 1 := by simp
  have hz := hA.size
  refine ⟨?_, fun t ht => ?_, fun t ht j hj => ?_⟩
  · rw [hl, List.map_append]
    exact ho
  · rcases List.mem_append.1 ht with h1 | h1
    · exact OwnR.keeps (h.rows t h1) hk (fun j hj => h.ne t h1 j hj)
    · simp only [List.mem_singleton] at h1
      subst h1
      exact OwnR.keeps hs hk hne
  · rw [hl]
    rcases List.mem_append.1 ht with h1 | h1
    · rcases hat with h2 | h2
      · rw [h2]; exact h.ne t h1 j hj
      · rw [h2]
        have := (OwnR.lt (h.rows t h1) hj).2
        simp only [ne_eq, Option.some.injEq]
        omega
    · simp only [List.mem_singleton] at h1
      subst h1
      rcases hat with h2 | h2
      · rw [h2]; exact hne j hj
      · rw [h2]
        have := (OwnR.lt hs hj).2
        simp only [ne_eq, Option.some.injEq]
        omega
end

theorem BlOwn.sets {w : World} {base : Nat} {a : Option Addr} {cap : Nat} {S : List BR} (h : BlOwn w base a cap S) : SetsAt w a (boolsOf S) := by
  intro h0
  rw [boolsOf_len] at h0
  obtain ⟨g, rfl, _, _⟩ := OwnR.addr h.own h0
  refine ⟨g, 0, rfl, fun i hi => ?_⟩
  rw [boolsOf_len] at hi
  have e : (boolsOf S)[i]'(by rw [boolsOf_len]; exact hi) = S[i].2.2 := by simp [boolsOf]
  have hr := h.rows _ (List.getElem_mem hi)
  refine ⟨S[i].1, S[i].2.1, ?_, ?_⟩
  · rw [e, Nat.zero_add, OwnR.cell h.own i (by omega), List.getElem?_map, List.getElem?_eq_getElem hi]
    rfl
  · rw [e]
    exact TruthsAt.of_own hr

/-! the automaton without its sets -/
/-- a node of the automaton without sets, as it is to be read -/
structure BareNode (w : World) (bn : Option Addr) (i : Nat) (s : NR) : Prop where
  nums : NumsAt .i64 w s.1 s.2.2.to
  inn : s.2.2.inn = 0
  at_ : ∃ b off, bn = some ⟨b, off, none⟩ ∧ w.cell? ⟨b, off + i * 4, none⟩ = some (.int .u64 s.2.2.need) ∧ w.cell? ⟨b, off + i * 4 + 1, none⟩ = some (.int .u64 s.2.2.ban) ∧ w.cell? ⟨b, off + i * 4 + 3, none⟩ = some (.slice s.1 s.2.2.to.length s.2.1)
theorem bare_rows {w : World} {bn : Option Addr} {A : AU} (h : NodesAt w bn A.nodes) : ∃ S : List NR, S.length = A.nodes.length ∧ nodesOf S = A.nodes.map bareN ∧ ∀ i (hi : i < S.length), BareNode w bn i S[i] := by
  obtain ⟨S, h1, h2⟩ := choose_list (n := A.nodes.length) (p := fun i (s : NR) => (A.nodes.map bareN)[i]? = some s.2.2 ∧ BareNode w bn i s) (fun i hi => by
    obtain ⟨b, off, hb, n0, n1, n2, a, c, n3, hN⟩ := h.at i hi
    refine ⟨(a, c, bareN A.nodes[i]), ?_, hN, rfl, b, off, hb, n0, n1, n3⟩
    rw [List.getElem?_map, List.getElem?_eq_getElem hi]
    rfl)
  refine ⟨S, h1, ?_, fun i hi => (h2 i hi).2⟩
  apply List.ext_getElem?
  intro i
  by_cases hi : i < S.length
  · have e : (nodesOf S)[i]? = some S[i].2.2 := by simp [nodesOf, hi]
    rw [e]
    exact (h2 i hi).1.symm
  · rw [List.getElem?_eq_none (by rw [nodesOf_len]; omega), List.getElem?_eq_none (by rw [List.length_map]; omega)]
/-- while its nodes are put -/
structure BnSt (W w : World) (bB B : Nat) (vi : Value) (S : List NR) (k : Nat) (a : Option Addr) (c : Nat) : Prop where
  low : Below W.heap.size W w
  row : RowAt w bB TA [.int .i64 0, vi, .slice a k c]
  own : OwnR w B TN 4 a k c (ncells (S.take k))
  h1 : W.heap.size ≤ bB
  h2 : bB < B
  h3 : B ≤ w.heap.size
theorem BnSt.app {W w wA w5 : World} {bB B : Nat} {vi : Value} {S : List NR} {k : Nat} {a : Option Addr} {c : Nat} (h : BnSt W w bB B vi S k a c) {s : NR} (hs : S[k]? = some s) (hA : Below w.heap.size w wA) {a' : Option Addr} {c' : Nat}
    (ho : OwnR w5 B TN 4 a' (k + 1) c' (ncells (S.take k) ++ ncell s)) (hg : wA.grownBy w5 (OB a k c)) : BnSt W (w5.setCell ⟨bB, 2, none⟩ (.slice a' (k + 1) c')) bB B vi S (k + 1) a' c' := by
  have hk : Keeps w w5 (fun j => B ≤ j) := (Keeps.of_below (S := fun j => B ≤ j) hA).trans (Keeps.of_grown (S := fun j => B ≤ j) hg (fun j e => (OwnR.lt h.own e).1)) (fun _ _ h => h)
  have hks : Keeps w5 (w5.setCell ⟨bB, 2, none⟩ (.slice a' (k + 1) c')) (fun j => j = bB) := Keeps.set w5 bB 2 _ rfl
  have h1 := h.h1
  have h2 := h.h2
  have h3 := h.h3
  have hz := hk.size
  have hz2 := hks.size
  refine ⟨hks.below (hk.below h.low (fun j e => by omega)) (fun j e => by omega), ?_, ?_, h1, h2, by omega⟩
  · exact (h.row.keeps hk (by omega)).set 2 _
  · have e : ncells (S.take (k + 1)) = ncells (S.take k) ++ ncell s := by
      rw [List.take_add_one, hs, Option.toList_some, ncells_snoc]
    rw [e]
    exact OwnR.keeps ho hks (fun j hj e => by have := (OwnR.lt ho hj).1; omega)
theorem BnSt.nodes {W w : World} {bB B : Nat} {vi : Value} {S : List NR} {a : Option Addr} {c : Nat} {bn : Option Addr} (h : BnSt W w bB B vi S S.length a c) (hS : ∀ i (hi : i < S.length), BareNode W bn i S[i]) : NodesAt w a (nodesOf S) := by
  intro h0
  rw [nodesOf_len] at h0
  have ho := h.own
  rw [List.take_length] at ho
  obtain ⟨g, rfl, _, _⟩ := OwnR.addr ho h0
  refine ⟨g, 0, rfl, fun i hi => ?_⟩
  rw [nodesOf_len] at hi
  have e : (nodesOf S)[i]'(by rw [nodesOf_len]; exact hi) = S[i].2.2 := by simp [nodesOf]
  obtain ⟨k0, k1, k2, k3⟩ := ncells_at S i hi
  rw [e, Nat.zero_add]
  exact ⟨(OwnR.cell ho _ (by omega)).trans k0, (OwnR.cell ho _ (by omega)).trans k1, (OwnR.cell ho _ (by omega)).trans k2, S[i].1, S[i].2.1, (OwnR.cell ho _ (by omega)).trans k3, (hS i hi).nums.below h.low⟩

/-! plain -/
theorem wholeP_es0 {G : GR} {sets : List (List Bool)} {A : AU} {m : Int} (h : (wholeP G sets A m).1 ≠ 0) : (wholeP G sets A m).2.2.es = [] := by
  unfold wholeP at h ⊢
  by_cases hn : newB G sets A = true
  · rw [if_pos hn] at h ⊢
    by_cases hm : m < 0
    · rw [if_pos hm]
    · rw [if_neg hm] at h ⊢
      cases hw : wholeL G sets A (most' m) 65540 0 ⟨firstP G A, [], [], []⟩ with
      | none => rfl
      | some s => rw [hw] at h; exact absurd rfl h
  · rw [if_neg hn]
theorem wholeL_all {G : GR} {sets : List (List Bool)} {A : AU} {most : Int} {p : PP → Prop} (hn : ∀ x y, y ∈ nextP G sets A x → p y) : ∀ (f i : Nat) (s s' : WR), (∀ x ∈ s.l, p x) → wholeL G sets A most f i s = some s' → ∀ x ∈ s'.l, p x
  | 0, _, _, _, _, h => by simp [wholeL] at h
  | f + 1, i, s, s', h1, h => by
    by_cases hl : i < s.l.length
    · by_cases hm : most < (s.l.length : Int)
      · rw [wholeL_more hl hm] at h
        cases h
      · rw [wholeL_step hl hm] at h
        exact wholeL_all hn f (i + 1) _ s' (rowQ_all G sets A _ h1 (hn _)) h
    · rw [wholeL_end hl] at h
      cases h
      exact h1
theorem wholeP_valid {G : GR} {sets : List (List Bool)} {A : AU} {m : Int} (h : (wholeP G sets A m).1 = 0) : ∀ x ∈ (wholeP G sets A m).2.2.l, vPP G sets A x := by
  unfold wholeP at h ⊢
  by_cases hn : newB G sets A = true
  · have hg : gchk G = 0 ∧ chk A = 0 := by
      unfold newB srcB at hn
      simp only [Bool.and_eq_true, decide_eq_true_eq] at hn
      exact ⟨hn.1.1.1, hn.2⟩
    rw [if_pos hn] at h ⊢
    by_cases hm : m < 0
    · rw [if_pos hm] at h
      cases h
    · rw [if_neg hm] at h ⊢
      cases hw : wholeL G sets A (most' m) 65540 0 ⟨firstP G A, [], [], []⟩ with
      | none => rw [hw] at h; cases h
      | some s => exact wholeL_all (fun x y hy => next_valid hg.1 hg.2 x y hy) _ _ _ s (first_valid hg.1 hg.2) hw
  · rw [if_neg hn] at h
    cases h
theorem ins_map {G : GR} {sets : List (List Bool)} {A : AU} {l : List PP} {ins : List Bool} (hl : ins.length = l.length) (h : ∀ k (hk : k < l.length), ins[k]? = some (inP G sets A l[k])) : ins = l.map (inP G sets A) := by
  apply List.ext_getElem?
  intro k
  by_cases hk : k < l.length
  · rw [h k hk, List.getElem?_map, List.getElem?_eq_getElem hk]
    rfl
  · rw [List.getElem?_eq_none (by omega), List.getElem?_eq_none (by rw [List.length_map]; omega)]
theorem TellsB.known {W : World} {P : Prop} {b : Bool} (hb : b = true ↔ P) {e : Ending} {w' : World} (h : TellsB W P e w') : e = .returned (.bool b) ∧ Below W.heap.size W w' := by
  obtain ⟨c, h1, h2, h3⟩ := h
  have e2 : c = b := by
    cases c <;> cases b <;> simp_all
  rw [← e2]
  exact ⟨h1, h3⟩
end Go.Proofs.Ytmlbjfaofppikaa
