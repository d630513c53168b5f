/- Automata as texts, plain: what the library's pieces, suffixes, counts and joins are here; a node's fields by the place of the word "to". No conditions. -/
import Derived.Test.YtjacphcnanopjaaDoorAtP
import Derived.Lib.SplitLaws
import Derived.Lib.Join
import Derived.Lib.Strings
namespace Go.Proofs.YtjacphcnanopjaaDoor
open Go.Lib
set_option linter.unusedVariables false

theorem index_cons_eq (b : UInt8) (r : List UInt8) : index (b :: r) [b] = ((0 : Nat) : Int) := by rw [index]; simp [List.isPrefixOf]
theorem index_cons_ne {b c : UInt8} (h : c ≠ b) (r : List UInt8) : index (c :: r) [b] = if index r [b] == -1 then -1 else index r [b] + 1 := by
  have hp : ([b] : List UInt8).isPrefixOf (c :: r) = false := by simp [List.isPrefixOf, Ne.symm h]
  rw [index, hp]
  simp
/-- the library's pieces -/
theorem splitK_cut (b : UInt8) : ∀ l : List UInt8, splitK [b] 0 (count l [b]) l = cutP b l
  | [] => by rw [count_miss (by simp [index])]; rfl
  | c :: r => by
    by_cases h : c = b
    · subst h
      rw [count_cons_eq, Nat.add_comm, splitK, index_cons_eq]
      rw [if_neg (by decide), cutP, if_pos rfl, ← splitK_cut c r]
      rfl
    · rw [count_cons_ne c b r h, cutP, if_neg h, ← splitK_cut b r]
      by_cases hm : index r [b] = -1
      · rw [count_miss hm]
        rfl
      · have hge := index_ge r [b]
        obtain ⟨j, hj⟩ : ∃ j : Nat, index r [b] = j := ⟨(index r [b]).toNat, by omega⟩
        have hix : index (c :: r) [b] = ((j + 1 : Nat) : Int) := by rw [index_cons_ne h, if_neg (fun e => hm (beq_iff_eq.1 e)), hj]; omega
        rw [count_hit (by simp) hj, Nat.add_comm, splitK, splitK, if_neg (fun e => by rw [hix] at e; have := beq_iff_eq.1 e; omega), if_neg (fun e => hm (beq_iff_eq.1 e)), hix, hj]
        rfl
theorem splitB_cut (b : UInt8) (s : ByteArray) : (splitB ⟨#[b]⟩ 0 (countB s ⟨#[b]⟩) s).map (·.data.toList) = cutP b s.data.toList := by
  rw [splitB_data]
  exact splitK_cut b _
theorem countB_cut (b : UInt8) (s : ByteArray) : countB s ⟨#[b]⟩ + 1 = (cutP b s.data.toList).length := by
  rw [← splitB_cut b s, List.length_map, splitB_all ⟨#[b]⟩ (Nat.le_refl 1) 0 _ s rfl]
theorem count_cut (b : UInt8) (l : List UInt8) : l.count b = (cutP b l).length - 1 := by
  have h := countB_cut b ⟨l.toArray⟩
  have h2 : countB ⟨l.toArray⟩ ⟨#[b]⟩ = count l [b] := rfl
  rw [h2, count_one] at h
  show _ = (cutP b l).length - 1
  have h3 : (cutP b (⟨l.toArray⟩ : ByteArray).data.toList).length = (cutP b l).length := rfl
  omega
/-- suffixes -/
theorem suf_last (l : List UInt8) (b : UInt8) : hasSuffix l [b] = decide (l.getLast? = some b) := by
  unfold hasSuffix
  rw [Bool.eq_iff_iff, decide_eq_true_iff, List.isSuffixOf_iff_suffix]
  constructor
  · rintro ⟨t, rfl⟩
    rw [List.getLast?_append]
    rfl
  · intro h
    refine ⟨l.dropLast, ?_⟩
    have hne : l ≠ [] := fun e => by subst e; cases h
    rw [List.getLast?_eq_some_getLast hne] at h
    injection h with h
    have := List.dropLast_concat_getLast hne
    rw [h] at this
    exact this
theorem trim_last (l : List UInt8) (b : UInt8) (h : l.getLast? = some b) : trimSuffix l [b] = l.dropLast := by
  unfold trimSuffix
  rw [suf_last, if_pos (decide_eq_true h), List.dropLast_eq_take]
  rfl
theorem cut_snoc (b : UInt8) : ∀ t : List UInt8, cutP b (t ++ [b]) = cutP b t ++ [[]]
  | [] => by
    show (if b = b then _ else _) = _
    rw [if_pos rfl]
    rfl
  | c :: t => by
    show cutP b (c :: (t ++ [b])) = _
    rw [cutP, cutP, cut_snoc b t]
    split
    · rfl
    · rename_i h
      have hn := cut_ne b t
      revert hn
      cases cutP b t with
      | nil => intro hn; exact absurd rfl hn
      | cons y ys => intro _; rfl
theorem cut_dropLast (b : UInt8) (l : List UInt8) (h : l.getLast? = some b) : cutP b l.dropLast = (cutP b l).dropLast := by
  have hne : l ≠ [] := fun e => by subst e; cases h
  have h1 := List.dropLast_concat_getLast hne
  rw [List.getLast?_eq_some_getLast hne] at h
  injection h with h
  rw [h] at h1
  have h2 : cutP b l = cutP b l.dropLast ++ [[]] := by rw [← cut_snoc b, h1]
  rw [h2, List.dropLast_concat]
/-- joins -/
theorem join_whole : ∀ (l : List UInt8) (r : List (List UInt8)), join (l :: r) [10] ++ [10] = (l :: r).flatMap fun l => l ++ [10]
  | l, [] => by rw [join_one]; show _ = l ++ [10] ++ []; rw [List.append_nil]
  | l, m :: r => by
    have ih := join_whole m r
    rw [List.flatMap_cons, ← ih, join_cons, join_cons]
    unfold joinTail
    simp only [List.map_cons, List.flatten_cons, List.append_assoc]
theorem join_lines (a : AU) : join (linesP a) [10] ++ [10] = wholeP a := join_whole _ _

/-! a node's fields by the place of "to" -/
def marksP (x : AN) : List (List UInt8) → Option AN
  | [] => some x
  | f :: r => match markP x f with
    | none => none
    | some y => marksP y r
/-- the first "to" -/
def toP : List (List UInt8) → Option Nat
  | [] => none
  | f :: r => if f = [116, 111] then some 0 else match toP r with
    | none => none
    | some k => some (k + 1)
theorem toP_lt : ∀ {fs : List (List UInt8)} {k : Nat}, toP fs = some k → k < fs.length
  | [], k, h => by cases h
  | f :: r, k, h => by
    rw [toP] at h
    split at h
    · injection h with h; subst h; exact Nat.succ_pos _
    · split at h
      · cases h
      · rename_i j hj
        injection h with h
        subst h
        rw [List.length_cons]
        exact Nat.succ_lt_succ (toP_lt hj)
theorem node_none : ∀ (fs : List (List UInt8)) (x : AN), toP fs = none → nodeP x fs = none
  | [], x, _ => rfl
  | f :: r, x, h => by
    rw [toP] at h
    split at h
    · cases h
    · rename_i hf
      split at h
      · rename_i hr
        rw [nodeP, if_neg hf]
        split
        · rfl
        · exact node_none r _ hr
      · cases h
theorem node_at : ∀ (fs : List (List UInt8)) (x : AN) (k : Nat), toP fs = some k → nodeP x fs = match marksP x (fs.take k) with
    | none => none
    | some y => match numsP (fs.drop (k + 1)) with
      | none => none
      | some l => some { y with to := l }
  | [], x, k, h => by cases h
  | f :: r, x, k, h => by
    rw [toP] at h
    split at h
    · rename_i hf
      injection h with h
      subst h
      rw [nodeP, if_pos hf]
      rfl
    · rename_i hf
      split at h
      · cases h
      · rename_i j hj
        injection h with h
        subst h
        rw [nodeP, if_neg hf, List.take_succ_cons, marksP]
        cases hm : markP x f with
        | none => rfl
        | some y => exact node_at r y j hj
end Go.Proofs.YtjacphcnanopjaaDoor
