/- Automata as texts, plain: what a text says, what is read of it, and the laws. No conditions. -/
import Derived.Test.YtjacphcnanopjaaDoorNumTextP
import Derived.Test.YtjacphcnanopjaaDoorAuto
namespace Go.Proofs.YtjacphcnanopjaaDoor
open Go.Lib
set_option linter.unusedVariables false

/-- the pieces between bytes of one sort -/
def cutP (b : UInt8) : List UInt8 → List (List UInt8)
  | [] => [[]]
  | c :: r => if c = b then [] :: cutP b r else match cutP b r with
    | [] => [[c]]
    | h :: t => (c :: h) :: t
/-- the places of the bits of a word -/
def bitsP (u : Nat) : List Nat := (List.range 64).filter fun i => u.testBit i
/-- words, each behind a blank -/
def joinF (fs : List (List UInt8)) : List UInt8 := fs.flatMap fun f => 32 :: f
def sgn (c : UInt8) (u : Nat) : List (List UInt8) := (bitsP u).map fun i : Nat => c :: itoa (i : Int)
/-- a node's words behind the first -/
def wordsN (x : AN) : List (List UInt8) := sgn 43 x.need ++ (sgn 45 x.ban ++ (sgn 64 x.inn ++ ([116, 111] :: x.to.map itoa)))
def lineN (x : AN) : List UInt8 := [110, 111, 100, 101] ++ joinF (wordsN x)
def lineA (s : Int) : List UInt8 := [97, 117, 116, 111] ++ joinF [itoa s]
def lineI (l : List Int) : List UInt8 := [105, 110, 105, 116] ++ joinF (l.map itoa)
def linesP (a : AU) : List (List UInt8) := lineA a.sets :: lineI a.init :: a.nodes.map lineN
/-- the text, however long -/
def wholeP (a : AU) : List UInt8 := (linesP a).flatMap fun l => l ++ [10]
/-- what Text gives -/
def textP (a : AU) : List UInt8 × Int := if chk a ≠ 0 then ([], chk a) else if 20000 < (wholeP a).length then ([], 5) else (wholeP a, 0)
/-- a number from 0 on -/
def numN (l : List UInt8) : Option Int := if (numP l).2 = true ∧ 0 ≤ (numP l).1 then some (numP l).1 else none
def numsP : List (List UInt8) → Option (List Int)
  | [] => some []
  | l :: r => match numN l with
    | none => none
    | some n => match numsP r with
      | none => none
      | some ns => some (n :: ns)
/-- what a field says of a node -/
def markP (x : AN) : List UInt8 → Option AN
  | [] => none
  | c :: r => match numN r with
    | none => none
    | some n => if 63 < n then none else if c = 43 then some { x with need := x.need ||| 1 <<< n.toNat } else if c = 45 then some { x with ban := x.ban ||| 1 <<< n.toNat } else if c = 64 then some { x with inn := x.inn ||| 1 <<< n.toNat } else none
/-- a node's fields -/
def nodeP (x : AN) : List (List UInt8) → Option AN
  | [] => none
  | f :: r => if f = [116, 111] then (match numsP r with
      | none => none
      | some l => some { x with to := l }) else match markP x f with
    | none => none
    | some y => nodeP y r
/-- a line that is read -/
def lineP (a : AU) (i : Nat) (f : List (List UInt8)) : Option AU :=
  if i = 0 then (if f.head? = some [97, 117, 116, 111] then match numsP f.tail with
    | some [n] => some { a with sets := n }
    | _ => none
    else none)
  else if i = 1 then (if f.head? = some [105, 110, 105, 116] then match numsP f.tail with
    | some l => some { a with init := l }
    | none => none
    else none)
  else if f.head? = some [110, 111, 100, 101] then match nodeP ⟨0, 0, 0, []⟩ f.tail with
    | some x => some { a with nodes := a.nodes ++ [x] }
    | none => none
    else none
/-- lines, one behind the other: the automaton, or the first that is none -/
def readP (a : AU) (i : Nat) : List (List UInt8) → AU ⊕ Nat
  | [] => .inl a
  | l :: r => match lineP a i (cutP 32 l) with
    | none => .inr i
    | some b => readP b (i + 1) r
/-- the first line that is another one -/
def diffP : Nat → List (List UInt8) → List (List UInt8) → Option Nat
  | i, l :: r, m :: q => if l = m then diffP (i + 1) r q else some i
  | _, _, _ => none
def au0 : AU := ⟨0, [], []⟩
/-- what Parse gives -/
def parseP (s : List UInt8) : AU × Nat × Int :=
  if 20000 < s.length then (au0, 0, 5)
  else if s.getLast? ≠ some 10 then (au0, (cutP 10 s).length - 1, 4)
  else match readP au0 0 (cutP 10 s).dropLast with
    | .inr i => (au0, i, 3)
    | .inl a => if (cutP 10 s).dropLast.length < 2 then (au0, (cutP 10 s).dropLast.length, 4)
      else if chk a ≠ 0 then (au0, (cutP 10 s).dropLast.length, chk a)
      else match diffP 0 (cutP 10 s).dropLast (linesP a) with
        | some i => (au0, i, 13)
        | none => (a, 0, 0)

/-! cuts -/
theorem cut_ne (b : UInt8) : ∀ l, cutP b l ≠ []
  | [] => by unfold cutP; exact List.cons_ne_nil _ _
  | c :: r => by
    unfold cutP
    split
    · exact List.cons_ne_nil _ _
    · split <;> exact List.cons_ne_nil _ _
theorem cut_none (b : UInt8) : ∀ l : List UInt8, (∀ c ∈ l, c ≠ b) → cutP b l = [l]
  | [], _ => rfl
  | c :: r, h => by
    unfold cutP
    rw [if_neg (h c (List.mem_cons_self ..)), cut_none b r (fun x hx => h x (List.mem_cons_of_mem _ hx))]
theorem cut_at (b : UInt8) : ∀ (l r : List UInt8), (∀ c ∈ l, c ≠ b) → cutP b (l ++ b :: r) = l :: cutP b r
  | [], r, _ => by
    show cutP b (b :: r) = _
    rw [cutP, if_pos rfl]
  | c :: l, r, h => by
    show cutP b (c :: (l ++ b :: r)) = _
    rw [cutP, if_neg (h c (List.mem_cons_self ..)), cut_at b l r (fun x hx => h x (List.mem_cons_of_mem _ hx))]
theorem cut_words : ∀ (fs : List (List UInt8)) (w : List UInt8), (∀ c ∈ w, c ≠ 32) → (∀ f ∈ fs, ∀ c ∈ f, c ≠ 32) → cutP 32 (w ++ joinF fs) = w :: fs
  | [], w, h, _ => by
    show cutP 32 (w ++ []) = _
    rw [List.append_nil, cut_none 32 w h]
  | f :: fs, w, h, hf => by
    show cutP 32 (w ++ (32 :: (f ++ joinF fs))) = _
    rw [cut_at 32 w _ h, cut_words fs f (hf f (List.mem_cons_self ..)) (fun g hg => hf g (List.mem_cons_of_mem _ hg))]
theorem cut_lines : ∀ (ls : List (List UInt8)), (∀ l ∈ ls, ∀ c ∈ l, c ≠ 10) → cutP 10 (ls.flatMap fun l => l ++ [10]) = ls ++ [[]]
  | [], _ => rfl
  | l :: ls, h => by
    show cutP 10 ((l ++ [10]) ++ ls.flatMap fun l => l ++ [10]) = _
    rw [List.append_assoc]
    show cutP 10 (l ++ 10 :: ls.flatMap fun l => l ++ [10]) = _
    rw [cut_at 10 l _ (h l (List.mem_cons_self ..)), cut_lines ls (fun g hg => h g (List.mem_cons_of_mem _ hg))]
    rfl
/-- a text put together of its pieces -/
theorem cut_back : ∀ (s : List UInt8), s.getLast? = some 10 → (cutP 10 s).dropLast.flatMap (fun l => l ++ [10]) = s := by
  have h : ∀ s : List UInt8, ∃ ls e, cutP 10 s = ls ++ [e] ∧ ls.flatMap (fun l => l ++ [10]) ++ e = s ∧ (s.getLast? = some 10 → e = []) := by
    intro s
    induction s with
    | nil => exact ⟨[], [], rfl, rfl, fun _ => rfl⟩
    | cons c r ih =>
      obtain ⟨ls, e, h1, h2, h3⟩ := ih
      by_cases hc : c = 10
      · subst hc
        refine ⟨[] :: ls, e, by rw [cutP, if_pos rfl, h1]; rfl, ?_, ?_⟩
        · show [] ++ [10] ++ ls.flatMap (fun l => l ++ [10]) ++ e = _
          rw [List.append_assoc, h2]
          rfl
        · intro hl
          cases r with
          | nil =>
            rw [cutP] at h1
            cases ls with
            | nil => injection h1 with h1 _
            | cons y ys =>
              injection h1 with _ h1
              have h1 := congrArg List.length h1
              simp at h1
          | cons d r => exact h3 (by rw [List.getLast?_cons_cons] at hl; exact hl)
      · cases ls with
        | nil =>
          rw [List.nil_append] at h1
          refine ⟨[], c :: e, by rw [cutP, if_neg hc, h1]; rfl, ?_, ?_⟩
          · show c :: e = c :: r
            rw [← h2]
            rfl
          · intro hl
            have h2' : e = r := h2
            subst h2'
            cases e with
            | nil => exact absurd hl (by show ¬ some c = some 10; intro h; injection h with h; exact hc h)
            | cons d r =>
              have := h3 (by rw [List.getLast?_cons_cons] at hl; exact hl)
              cases this
        | cons y ys =>
          refine ⟨(c :: y) :: ys, e, by rw [cutP, if_neg hc, h1]; rfl, ?_, ?_⟩
          · show (c :: y ++ [10] ++ ys.flatMap fun l => l ++ [10]) ++ e = c :: r
            rw [← h2]
            rfl
          · intro hl
            refine h3 ?_
            cases r with
            | nil =>
              exact absurd hl (by show ¬ some c = some 10; intro h; injection h with h; exact hc h)
            | cons d r => rw [List.getLast?_cons_cons] at hl; exact hl
  intro s hs
  obtain ⟨ls, e, h1, h2, h3⟩ := h s
  rw [h1, List.dropLast_concat]
  rw [h3 hs, List.append_nil] at h2
  exact h2
theorem whole_last (a : AU) : (wholeP a).getLast? = some 10 := by
  have h : ∀ ls : List (List UInt8), ls ≠ [] → (ls.flatMap fun l => l ++ [10]).getLast? = some 10 := by
    intro ls
    induction ls with
    | nil => intro h; exact absurd rfl h
    | cons l ls ih =>
      intro _
      rw [List.flatMap_cons]
      cases ls with
      | nil =>
        show (l ++ [10] ++ []).getLast? = _
        rw [List.append_nil, List.getLast?_append]
        rfl
      | cons m ls =>
        rw [List.getLast?_append, ih (List.cons_ne_nil _ _)]
        rfl
  exact h _ (List.cons_ne_nil _ _)

/-! numbers -/
theorem itoa_byte (n : Int) : ∀ c ∈ itoa n, c ≠ 32 ∧ c ≠ 10 := by
  have hd : ∀ u : Nat, ∀ c ∈ decDigits u, c ≠ 32 ∧ c ≠ 10 := fun u c hc => by
    obtain ⟨h1, h2⟩ := dec_digit u c hc
    constructor
    · intro e; subst e; exact absurd h1 (by decide)
    · intro e; subst e; exact absurd h1 (by decide)
  intro c hc
  unfold itoa at hc
  split at hc
  · rcases List.mem_cons.1 hc with e | e
    · subst e; exact ⟨by decide, by decide⟩
    · exact hd _ c e
  · exact hd _ c hc
theorem numN_itoa {n : Int} (h0 : 0 ≤ n) (h1 : n ≤ 1048576) : numN (itoa n) = some n := by
  unfold numN
  rw [numP_itoa n (by unfold within6; exact decide_eq_true ⟨by omega, h1⟩)]
  rw [if_pos ⟨rfl, h0⟩]
theorem numsP_itoa : ∀ (l : List Int), (∀ n ∈ l, 0 ≤ n ∧ n ≤ 1048576) → numsP (l.map itoa) = some l
  | [], _ => rfl
  | n :: l, h => by
    obtain ⟨h0, h1⟩ := h n (List.mem_cons_self ..)
    show numsP (itoa n :: l.map itoa) = _
    rw [numsP, numN_itoa h0 h1, numsP_itoa l (fun m hm => h m (List.mem_cons_of_mem _ hm))]
theorem numN_some {l : List UInt8} {n : Int} (h : numN l = some n) : 0 ≤ n ∧ n ≤ 1048576 ∧ itoa n = l := by
  unfold numN at h
  split at h
  · rename_i hc
    injection h with h
    subst h
    obtain ⟨h1, h2⟩ := numP_true hc.1
    unfold within6 at h1
    exact ⟨hc.2, (of_decide_eq_true h1).2, h2⟩
  · cases h
theorem numsP_some : ∀ {l : List (List UInt8)} {ns : List Int}, numsP l = some ns → ns.length = l.length ∧ ∀ n ∈ ns, 0 ≤ n ∧ n ≤ 1048576
  | [], ns, h => by
    rw [numsP] at h
    injection h with h
    subst h
    exact ⟨rfl, fun n hn => by cases hn⟩
  | f :: l, ns, h => by
    rw [numsP] at h
    split at h
    · cases h
    · rename_i n hn
      split at h
      · cases h
      · rename_i ms hms
        injection h with h
        subst h
        obtain ⟨h1, h2⟩ := numsP_some hms
        refine ⟨by rw [List.length_cons, List.length_cons, h1], fun m hm => ?_⟩
        rcases List.mem_cons.1 hm with e | e
        · subst e; exact ⟨(numN_some hn).1, (numN_some hn).2.1⟩
        · exact h2 m e

/-! marks -/
def orAll (acc : Nat) : List Nat → Nat
  | [] => acc
  | i :: l => orAll (acc ||| 1 <<< i) l
theorem orAll_bit (j : Nat) : ∀ (l : List Nat) (acc : Nat), (orAll acc l).testBit j = (acc.testBit j || decide (j ∈ l))
  | [], acc => by
    show acc.testBit j = _
    rw [decide_eq_false (fun h => by cases h), Bool.or_false]
  | i :: l, acc => by
    rw [orAll, orAll_bit j l, Nat.testBit_or, Nat.one_shiftLeft, Nat.testBit_two_pow, Bool.or_assoc]
    congr 1
    rw [Bool.eq_iff_iff, Bool.or_eq_true, decide_eq_true_iff, decide_eq_true_iff, decide_eq_true_iff, List.mem_cons]
    constructor
    · rintro (h | h)
      · exact .inl h.symm
      · exact .inr h
    · rintro (h | h)
      · exact .inl h.symm
      · exact .inr h
theorem orAll_bits {u : Nat} (h : u < 18446744073709551616) : orAll 0 (bitsP u) = u := by
  refine Nat.eq_of_testBit_eq fun j => ?_
  rw [orAll_bit, Nat.zero_testBit, Bool.false_or]
  unfold bitsP
  by_cases hj : j < 64
  · by_cases hb : u.testBit j = true
    · rw [hb]
      exact decide_eq_true (List.mem_filter.2 ⟨List.mem_range.2 hj, hb⟩)
    · rw [Bool.not_eq_true] at hb
      rw [hb]
      exact decide_eq_false fun h => by have := (List.mem_filter.1 h).2; rw [hb] at this; cases this
  · rw [Nat.testBit_lt_two_pow (Nat.lt_of_lt_of_le (show u < 2 ^ 64 from h) (Nat.pow_le_pow_right (by decide) (by omega)))]
    exact decide_eq_false fun h => hj (List.mem_range.1 (List.mem_filter.1 h).1)
theorem bits_lt {u i : Nat} (h : i ∈ bitsP u) : i < 64 := List.mem_range.1 (List.mem_filter.1 h).1
/-- one sign's marks -/
theorem marks_of (c : UInt8) (set : AN → Nat → AN) (get : AN → Nat) (hm : ∀ x (n : Nat), n < 64 → markP x (c :: itoa (n : Int)) = some (set x (get x ||| 1 <<< n))) (hg : ∀ x n, get (set x n) = n) (hs : ∀ x n m, set (set x n) m = set x m) (he : ∀ x, set x (get x) = x) :
    ∀ (l : List Nat) (x : AN) (r : List (List UInt8)), (∀ i ∈ l, i < 64) → c ≠ 116 → nodeP x (l.map (fun i : Nat => c :: itoa (i : Int)) ++ r) = nodeP (set x (orAll (get x) l)) r
  | [], x, r, _, _ => by
    show nodeP x r = _
    rw [orAll, he]
  | i :: l, x, r, h, hc => by
    show nodeP x ((c :: itoa (i : Int)) :: (l.map (fun i : Nat => c :: itoa (i : Int)) ++ r)) = _
    rw [nodeP, if_neg (fun e => by injection e with e _; exact hc e), hm x i (h i (List.mem_cons_self ..))]
    show nodeP (set x (get x ||| 1 <<< i)) _ = _
    rw [marks_of c set get hm hg hs he l _ r (fun j hj => h j (List.mem_cons_of_mem _ hj)) hc, hg, hs]
    rfl
theorem node_words {x : AN} (h1 : u64ok x.need) (h2 : u64ok x.ban) (h3 : u64ok x.inn) (ht : ∀ n ∈ x.to, 0 ≤ n ∧ n ≤ 1048576) : nodeP ⟨0, 0, 0, []⟩ (wordsN x) = some x := by
  have hn : ∀ n : Nat, n < 64 → numN (itoa (n : Int)) = some (n : Int) := fun n hn => numN_itoa (by omega) (by omega)
  unfold wordsN sgn
  rw [marks_of 43 (fun x n => { x with need := n }) (·.need) (fun x n h => by
      unfold markP
      dsimp only
      rw [hn n h]
      dsimp only
      rw [if_neg (by omega), if_pos rfl]
      rfl) (fun _ _ => rfl) (fun _ _ _ => rfl) (fun _ => rfl) _ _ _ (fun i hi => bits_lt hi) (by decide)]
  rw [marks_of 45 (fun x n => { x with ban := n }) (·.ban) (fun x n h => by
      unfold markP
      dsimp only
      rw [hn n h]
      dsimp only
      rw [if_neg (by omega), if_neg (by decide), if_pos rfl]
      rfl) (fun _ _ => rfl) (fun _ _ _ => rfl) (fun _ => rfl) _ _ _ (fun i hi => bits_lt hi) (by decide)]
  rw [marks_of 64 (fun x n => { x with inn := n }) (·.inn) (fun x n h => by
      unfold markP
      dsimp only
      rw [hn n h]
      dsimp only
      rw [if_neg (by omega), if_neg (by decide), if_neg (by decide), if_pos rfl]
      rfl) (fun _ _ => rfl) (fun _ _ _ => rfl) (fun _ => rfl) _ _ _ (fun i hi => bits_lt hi) (by decide)]
  dsimp only
  rw [nodeP, if_pos rfl, numsP_itoa _ ht, orAll_bits h1, orAll_bits h2, orAll_bits h3]

/-! no byte that cuts -/
theorem sgn_byte {c : UInt8} (hc : c ≠ 32 ∧ c ≠ 10) (u : Nat) : ∀ f ∈ sgn c u, ∀ d ∈ f, d ≠ 32 ∧ d ≠ 10 := fun f hf d hd => by
  obtain ⟨i, _, rfl⟩ := List.mem_map.1 hf
  rcases List.mem_cons.1 hd with e | e
  · subst e; exact hc
  · exact itoa_byte _ d e
theorem words_byte (x : AN) : ∀ f ∈ wordsN x, ∀ d ∈ f, d ≠ 32 ∧ d ≠ 10 := fun f hf => by
  unfold wordsN at hf
  rcases List.mem_append.1 hf with h | h
  · exact sgn_byte (by decide) _ f h
  rcases List.mem_append.1 h with h | h
  · exact sgn_byte (by decide) _ f h
  rcases List.mem_append.1 h with h | h
  · exact sgn_byte (by decide) _ f h
  rcases List.mem_cons.1 h with h | h
  · subst h
    intro d hd
    rcases List.mem_cons.1 hd with e | e
    · subst e; decide
    · rcases List.mem_cons.1 e with e | e
      · subst e; decide
      · cases e
  · obtain ⟨n, _, rfl⟩ := List.mem_map.1 h
    exact itoa_byte n
theorem nums_byte (l : List Int) : ∀ f ∈ l.map itoa, ∀ d ∈ f, d ≠ 32 ∧ d ≠ 10 := fun f hf => by
  obtain ⟨n, _, rfl⟩ := List.mem_map.1 hf
  exact itoa_byte n
theorem joinF_byte {w : List UInt8} {fs : List (List UInt8)} (hw : ∀ d ∈ w, d ≠ 32 ∧ d ≠ 10) (h : ∀ f ∈ fs, ∀ d ∈ f, d ≠ 32 ∧ d ≠ 10) : ∀ d ∈ w ++ joinF fs, d ≠ 10 := fun d hd => by
  rcases List.mem_append.1 hd with e | e
  · exact (hw d e).2
  · obtain ⟨f, hf, hd⟩ := List.mem_flatMap.1 e
    rcases List.mem_cons.1 hd with e | e
    · subst e; decide
    · exact (h f hf d e).2
theorem w_node : ∀ d ∈ ([110, 111, 100, 101] : List UInt8), d ≠ 32 ∧ d ≠ 10 := by decide
theorem w_auto : ∀ d ∈ ([97, 117, 116, 111] : List UInt8), d ≠ 32 ∧ d ≠ 10 := by decide
theorem w_init : ∀ d ∈ ([105, 110, 105, 116] : List UInt8), d ≠ 32 ∧ d ≠ 10 := by decide
theorem lines_byte (a : AU) : ∀ l ∈ linesP a, ∀ d ∈ l, d ≠ 10 := fun l hl => by
  unfold linesP at hl
  rcases List.mem_cons.1 hl with e | e
  · subst e
    exact joinF_byte w_auto (nums_byte [a.sets])
  rcases List.mem_cons.1 e with e | e
  · subst e
    exact joinF_byte w_init (nums_byte a.init)
  · obtain ⟨x, _, rfl⟩ := List.mem_map.1 e
    exact joinF_byte w_node (words_byte x)

/-! what is written is read -/
/-- numbers that a text can tell -/
structure AuTx (a : AU) : Prop where
  sets : 0 ≤ a.sets ∧ a.sets ≤ 1048576
  init : ∀ n ∈ a.init, 0 ≤ n ∧ n ≤ 1048576
  nodes : ∀ x ∈ a.nodes, (u64ok x.need ∧ u64ok x.ban ∧ u64ok x.inn) ∧ ∀ n ∈ x.to, 0 ≤ n ∧ n ≤ 1048576
theorem line_node (a : AU) (i : Nat) (hi : 2 ≤ i) {x : AN} (h : (u64ok x.need ∧ u64ok x.ban ∧ u64ok x.inn) ∧ ∀ n ∈ x.to, 0 ≤ n ∧ n ≤ 1048576) : lineP a i (cutP 32 (lineN x)) = some { a with nodes := a.nodes ++ [x] } := by
  unfold lineN
  rw [cut_words _ _ (fun d hd => (w_node d hd).1) (fun f hf d hd => (words_byte x f hf d hd).1)]
  unfold lineP
  rw [if_neg (by omega), if_neg (by omega), if_pos (show ([110, 111, 100, 101] :: wordsN x).head? = some [110, 111, 100, 101] from rfl)]
  show (match nodeP ⟨0, 0, 0, []⟩ (wordsN x) with
    | some x => some { a with nodes := a.nodes ++ [x] }
    | none => none) = _
  rw [node_words h.1.1 h.1.2.1 h.1.2.2 h.2]
theorem read_nodes : ∀ (xs : List AN) (a : AU) (i : Nat), 2 ≤ i → (∀ x ∈ xs, (u64ok x.need ∧ u64ok x.ban ∧ u64ok x.inn) ∧ ∀ n ∈ x.to, 0 ≤ n ∧ n ≤ 1048576) → readP a i (xs.map lineN) = .inl { a with nodes := a.nodes ++ xs }
  | [], a, i, _, _ => by
    show Sum.inl a = _
    rw [List.append_nil]
  | x :: xs, a, i, hi, h => by
    show readP a i (lineN x :: xs.map lineN) = _
    rw [readP, line_node a i hi (h x (List.mem_cons_self ..))]
    dsimp only
    rw [read_nodes xs _ (i + 1) (by omega) (fun y hy => h y (List.mem_cons_of_mem _ hy))]
    dsimp only
    rw [List.append_assoc]
    rfl
theorem read_lines {a : AU} (h : AuTx a) : readP au0 0 (linesP a) = .inl a := by
  unfold linesP
  rw [readP]
  have h1 : lineP au0 0 (cutP 32 (lineA a.sets)) = some ⟨a.sets, [], []⟩ := by
    unfold lineA
    rw [show ([itoa a.sets] : List (List UInt8)) = [a.sets].map itoa from rfl, cut_words _ _ (fun d hd => (w_auto d hd).1) (fun f hf d hd => (nums_byte [a.sets] f hf d hd).1)]
    unfold lineP
    rw [if_pos rfl, if_pos (show ([97, 117, 116, 111] :: [a.sets].map itoa).head? = some [97, 117, 116, 111] from rfl)]
    show (match numsP ([a.sets].map itoa) with
      | some [n] => some { au0 with sets := n }
      | _ => none) = _
    rw [numsP_itoa [a.sets] (fun n hn => by rw [List.mem_singleton] at hn; subst hn; exact h.sets)]
    rfl
  rw [h1]
  dsimp only
  rw [readP]
  have h2 : lineP ⟨a.sets, [], []⟩ (0 + 1) (cutP 32 (lineI a.init)) = some ⟨a.sets, a.init, []⟩ := by
    unfold lineI
    rw [cut_words _ _ (fun d hd => (w_init d hd).1) (fun f hf d hd => (nums_byte a.init f hf d hd).1)]
    unfold lineP
    rw [if_neg (by decide), if_pos rfl, if_pos (show ([105, 110, 105, 116] :: a.init.map itoa).head? = some [105, 110, 105, 116] from rfl)]
    show (match numsP (a.init.map itoa) with
      | some l => some ({ (⟨a.sets, [], []⟩ : AU) with init := l })
      | none => none) = _
    rw [numsP_itoa a.init h.init]
  rw [h2]
  dsimp only
  rw [read_nodes a.nodes _ _ (by omega) h.nodes]
  rfl
theorem diff_self : ∀ (l : List (List UInt8)) (i : Nat), diffP i l l = none
  | [], i => rfl
  | x :: l, i => by
    rw [diffP, if_pos rfl]
    exact diff_self l (i + 1)
theorem parse_back {a : AU} (h : AuTx a) (hc : chk a = 0) (hl : (wholeP a).length ≤ 20000) : parseP (wholeP a) = (a, 0, 0) := by
  have hcut : (cutP 10 (wholeP a)).dropLast = linesP a := by
    unfold wholeP
    rw [cut_lines _ (lines_byte a), List.dropLast_concat]
  unfold parseP
  rw [if_neg (by omega), if_neg (by rw [whole_last]; exact fun h => h rfl), hcut, read_lines h]
  dsimp only
  rw [if_neg (by unfold linesP; simp only [List.length_cons]; omega), if_neg (by rw [hc]; exact fun h => h rfl), diff_self]

/-! what is read is written -/
theorem mark_some {x y : AN} {f : List UInt8} (h : markP x f = some y) (hx : u64ok x.need ∧ u64ok x.ban ∧ u64ok x.inn) : (u64ok y.need ∧ u64ok y.ban ∧ u64ok y.inn) ∧ y.to = x.to := by
  have ho : ∀ (u : Nat) (n : Int), u64ok u → ¬ 63 < n → 0 ≤ n → u64ok (u ||| 1 <<< n.toNat) := fun u n hu h1 h2 => by
    unfold u64ok at hu ⊢
    rw [Nat.one_shiftLeft]
    exact Nat.or_lt_two_pow (n := 64) hu (Nat.pow_lt_pow_right (by decide) (by omega))
  unfold markP at h
  split at h
  · cases h
  · split at h
    · cases h
    · rename_i n hn
      have h0 := (numN_some hn).1
      split at h
      · cases h
      · rename_i h63
        split at h
        · injection h with h; subst h; exact ⟨⟨ho _ _ hx.1 h63 h0, hx.2⟩, rfl⟩
        · split at h
          · injection h with h; subst h; exact ⟨⟨hx.1, ho _ _ hx.2.1 h63 h0, hx.2.2⟩, rfl⟩
          · split at h
            · injection h with h; subst h; exact ⟨⟨hx.1, hx.2.1, ho _ _ hx.2.2 h63 h0⟩, rfl⟩
            · cases h
theorem node_some : ∀ {fs : List (List UInt8)} {x y : AN}, nodeP x fs = some y → (u64ok x.need ∧ u64ok x.ban ∧ u64ok x.inn) → (u64ok y.need ∧ u64ok y.ban ∧ u64ok y.inn) ∧ y.to.length ≤ fs.length ∧ ∀ n ∈ y.to, 0 ≤ n ∧ n ≤ 1048576
  | [], x, y, h, _ => by rw [nodeP] at h; cases h
  | f :: r, x, y, h, hx => by
    rw [nodeP] at h
    split at h
    · split at h
      · cases h
      · rename_i l hl
        injection h with h
        subst h
        obtain ⟨h1, h2⟩ := numsP_some hl
        exact ⟨hx, by show l.length ≤ _; rw [h1, List.length_cons]; omega, h2⟩
    · split at h
      · cases h
      · rename_i z hz
        obtain ⟨h1, h2, h3⟩ := node_some h (mark_some hz hx).1
        exact ⟨h1, by rw [List.length_cons]; omega, h3⟩
theorem cut_len (b : UInt8) : ∀ s : List UInt8, (cutP b s).length ≤ s.length + 1
  | [] => Nat.le_refl _
  | c :: r => by
    have ih := cut_len b r
    unfold cutP
    split
    · rw [List.length_cons, List.length_cons]; omega
    · split
      · rw [List.length_cons, List.length_cons]; show 0 + 1 ≤ _; omega
      · rename_i h t e
        rw [e] at ih
        rw [List.length_cons] at ih
        rw [List.length_cons, List.length_cons]; omega
/-- an automaton under way: what has been read so far -/
structure AuRd (a : AU) (i : Nat) (L : Nat) : Prop where
  tx : AuTx a
  len : a.nodes.length = i - 2
  il : a.init.length ≤ L
  nl : ∀ x ∈ a.nodes, x.to.length ≤ L
theorem au0_rd (L : Nat) : AuRd au0 0 L := ⟨⟨⟨by decide, by decide⟩, fun n h => (by cases h), fun n h => (by cases h)⟩, rfl, Nat.zero_le _, fun n h => (by cases h)⟩
theorem line_some {a b : AU} {i L : Nat} {f : List (List UInt8)} (h : lineP a i f = some b) (ha : AuRd a i L) (hf : f.length ≤ L + 1) : AuRd b (i + 1) L := by
  unfold lineP at h
  have hlen := ha.len
  have hft : f.tail.length ≤ L := by rw [List.length_tail]; omega
  split at h
  · split at h
    · split at h
      · rename_i n hn
        injection h with h
        subst h
        obtain ⟨h1, h2⟩ := numsP_some hn
        refine ⟨⟨h2 n (List.mem_cons_self ..), ha.tx.init, ha.tx.nodes⟩, ?_, ha.il, ha.nl⟩
        show a.nodes.length = _
        omega
      · cases h
    · cases h
  · split at h
    · split at h
      · split at h
        · rename_i l hl
          injection h with h
          subst h
          obtain ⟨h1, h2⟩ := numsP_some hl
          refine ⟨⟨ha.tx.sets, h2, ha.tx.nodes⟩, ?_, ?_, ha.nl⟩
          · show a.nodes.length = _
            omega
          · show l.length ≤ L
            omega
        · cases h
      · cases h
    · split at h
      · split at h
        · rename_i x hx
          injection h with h
          subst h
          obtain ⟨h1, h2, h3⟩ := node_some hx ⟨by unfold u64ok; decide, by unfold u64ok; decide, by unfold u64ok; decide⟩
          refine ⟨⟨ha.tx.sets, ha.tx.init, fun y hy => ?_⟩, ?_, ha.il, fun y hy => ?_⟩
          · rcases List.mem_append.1 hy with e | e
            · exact ha.tx.nodes y e
            · rw [List.mem_singleton] at e; subst e; exact ⟨h1, h3⟩
          · show (a.nodes ++ [x]).length = _
            rw [List.length_append, List.length_singleton]
            omega
          · rcases List.mem_append.1 hy with e | e
            · exact ha.nl y e
            · rw [List.mem_singleton] at e; subst e; omega
        · cases h
      · cases h
theorem read_some {L : Nat} : ∀ {ls : List (List UInt8)} {a b : AU} {i : Nat}, readP a i ls = .inl b → AuRd a i L → (∀ l ∈ ls, l.length ≤ L) → AuRd b (i + ls.length) L
  | [], a, b, i, h, ha, _ => by
    rw [readP] at h
    injection h with h
    subst h
    exact ha
  | l :: ls, a, b, i, h, ha, hl => by
    rw [readP] at h
    split at h
    · cases h
    · rename_i c hc
      have h1 := line_some hc ha (Nat.le_trans (cut_len 32 l) (Nat.succ_le_succ (hl l (List.mem_cons_self ..))))
      have h2 := read_some h h1 (fun m hm => hl m (List.mem_cons_of_mem _ hm))
      rw [List.length_cons, show i + (ls.length + 1) = i + 1 + ls.length by omega]
      exact h2
theorem diff_none : ∀ {l m : List (List UInt8)} {i : Nat}, l.length = m.length → diffP i l m = none → l = m
  | [], [], i, _, _ => rfl
  | [], y :: m, i, h, _ => by cases h
  | x :: l, [], i, h, _ => by cases h
  | x :: l, y :: m, i, h, h2 => by
    rw [diffP] at h2
    split at h2
    · rename_i e
      subst e
      rw [diff_none (by rw [List.length_cons, List.length_cons] at h; omega) h2]
    · cases h2
theorem piece_len (s : List UInt8) (b : UInt8) : ∀ l ∈ cutP b s, l.length ≤ s.length := by
  induction s with
  | nil =>
    intro l hl
    rw [cutP, List.mem_singleton] at hl
    subst hl
    exact Nat.le_refl _
  | cons c r ih =>
    intro l hl
    rw [List.length_cons]
    rw [cutP] at hl
    split at hl
    · rcases List.mem_cons.1 hl with e | e
      · subst e; exact Nat.zero_le _
      · have := ih l e; omega
    · split at hl
      · rw [List.mem_singleton] at hl; subst hl; show 0 + 1 ≤ _; omega
      · rename_i h t e
        rw [e] at ih
        rcases List.mem_cons.1 hl with e2 | e2
        · subst e2
          have := ih h (List.mem_cons_self ..)
          rw [List.length_cons]; omega
        · have := ih l (List.mem_cons_of_mem _ e2); omega
/-- what an OK says -/
theorem parse_once {s : List UInt8} {a : AU} {n : Nat} (h : parseP s = (a, n, 0)) : wholeP a = s ∧ chk a = 0 ∧ AuTx a ∧ s.length ≤ 20000 ∧ n = 0 := by
  unfold parseP at h
  split at h
  · injection h with _ h; injection h with _ h; cases h
  · rename_i h20
    split at h
    · injection h with _ h; injection h with _ h; cases h
    · rename_i hlast
      rw [Classical.not_not] at hlast
      split at h
      · injection h with _ h; injection h with _ h; cases h
      · rename_i b hb
        split at h
        · injection h with _ h; injection h with _ h; cases h
        · rename_i h2
          split at h
          · rename_i hc
            injection h with _ h; injection h with _ h; exact absurd h hc
          · rename_i hc
            rw [Classical.not_not] at hc
            split at h
            · injection h with _ h; injection h with _ h; cases h
            · rename_i hd
              injection h with h1 h
              injection h with h3 _
              subst h1
              have hr := read_some (L := s.length) hb (au0_rd _) (fun l hl => piece_len s 10 l (List.dropLast_subset _ hl))
              have hln : (cutP 10 s).dropLast.length = (linesP b).length := by
                unfold linesP
                have := hr.len
                simp only [List.length_cons, List.length_map]
                omega
              have he := diff_none hln hd
              refine ⟨?_, hc, hr.tx, by omega, h3.symm⟩
              unfold wholeP
              rw [← he]
              exact cut_back s hlast
theorem parse_none {s : List UInt8} (h : (parseP s).2.2 ≠ 0) : (parseP s).1 = au0 := by
  unfold parseP at h ⊢
  split at h
  · rename_i h1; rw [if_pos h1]
  · rename_i h1
    rw [if_neg h1]
    split at h
    · rename_i h2; rw [if_pos h2]
    · rename_i h2
      rw [if_neg h2]
      split at h
      · rfl
      · rename_i b hb
        split at h
        · rename_i h3; rw [if_pos h3]
        · rename_i h3
          rw [if_neg h3]
          split at h
          · rename_i h4; rw [if_pos h4]
          · rename_i h4
            rw [if_neg h4]
            split at h
            · rfl
            · exact absurd rfl h
/-- unlike automata have unlike texts -/
theorem whole_inj {a b : AU} (ha : AuTx a) (hb : AuTx b) (h : wholeP a = wholeP b) : a = b := by
  have hl : linesP a = linesP b := by
    have h1 := cut_lines _ (lines_byte a)
    have h2 := cut_lines _ (lines_byte b)
    have h3 : cutP 10 (wholeP a) = cutP 10 (wholeP b) := by rw [h]
    unfold wholeP at h3
    rw [h1, h2] at h3
    exact (List.append_inj' h3 rfl).1
  have h1 := read_lines ha
  have h2 := read_lines hb
  rw [hl, h2] at h1
  injection h1 with h1
  exact h1.symm
end Go.Proofs.YtjacphcnanopjaaDoor
