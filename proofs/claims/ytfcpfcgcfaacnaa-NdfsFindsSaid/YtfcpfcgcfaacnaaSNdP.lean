/- The nested search in plain lists. No conditions. -/
import Derived.Test.YtfcpfcgcfaacnaaSPrIn
namespace Go.Proofs.Ytfcpfcgcfaacnaa
set_option linter.unusedVariables false
structure NB where
 n : Nat
 d : Nat
structure NS where
 nodes : Nat
 edges : Nat
 depth : Nat
 reached : List PP
 marked : List PP
 ot : List (PP × Nat)
structure NF where
 kind : Nat
 why : Nat
 nodes : Nat
 edges : Nat
 depth : Nat
 stem : List PP
 loop : List PP
def way (l : List (PP × Nat)) : List PP := (l.map (·.1)).reverse
def overP (s : NS) (why : Nat) : NF := ⟨3, why, s.nodes, s.edges, s.depth, [], []⟩
def failP (s : NS) (y : PP) (st : List (PP × Nat)) : NF := ⟨2, 0, s.nodes, s.edges, s.depth, (way s.ot).take ((way s.ot).idxOf y), (way s.ot).drop ((way s.ot).idxOf y) ++ (way st).drop 1⟩
def reachS (s : NS) (x : PP) : NS := { s with nodes := s.nodes + 1, reached := s.reached ++ [x] }
def pushS (s : NS) (x : PP) : NS := { s with ot := (x, 0) :: s.ot, depth := max s.depth (s.ot.length + 1) }
def comeP (b : NB) (s : NS) (x : PP) : NS × Option NF :=
 if b.n ≤ s.nodes then (s, some (overP s 1))
 else if b.d < s.ot.length + 1 then (reachS s x, some (overP (reachS s x) 2))
 else (pushS (reachS s x) x, none)
def edgeS (s : NS) : NS := { s with edges := s.edges + 1 }
def markS (s : NS) (y : PP) : NS := { s with marked := s.marked ++ [y] }
def deepS (s : NS) (d : Nat) : NS := { s with depth := max s.depth d }
def atS (s : NS) (l : List (PP × Nat)) : NS := { s with ot := l }
def innerF (b : NB) (nx : PP → List PP) : Nat → NS → List (PP × Nat) → NS × Option NF
 | 0, s, _ => (s, none)
 | _ + 1, s, [] => (s, none)
 | f + 1, s, (x, k) :: r =>
  match (nx x)[k]? with
  | none => innerF b nx f s r
  | some y =>
   if y ∈ way s.ot then (edgeS s, some (failP (edgeS s) y ((x, k + 1) :: r)))
   else if y ∈ s.marked then innerF b nx f (edgeS s) ((x, k + 1) :: r)
   else if b.d < s.ot.length + (r.length + 1) then (markS (edgeS s) y, some (overP (markS (edgeS s) y) 2))
   else innerF b nx f (deepS (markS (edgeS s) y) (s.ot.length + (r.length + 1))) ((y, 0) :: (x, k + 1) :: r)
def FI : Nat := 500000
def outerF (b : NB) (nx : PP → List PP) (inq : PP → Bool) : Nat → NS → NS × Option NF
 | 0, s => (s, none)
 | f + 1, s =>
  match s.ot with
  | [] => (s, none)
  | (x, k) :: r =>
   match (nx x)[k]? with
   | some y =>
    if y ∈ s.reached then outerF b nx inq f (atS (edgeS s) ((x, k + 1) :: r))
    else match comeP b (atS (edgeS s) ((x, k + 1) :: r)) y with
     | (s2, some e) => (s2, some e)
     | (s2, none) => outerF b nx inq f s2
   | none =>
    if inq x = true then match innerF b nx FI s [(x, 0)] with
     | (s1, some e) => (s1, some e)
     | (s1, none) => outerF b nx inq f (atS s1 r)
    else outerF b nx inq f (atS s r)
def FO : Nat := 500000
def searchF (b : NB) (nx : PP → List PP) (inq : PP → Bool) : List PP → NS → NF
 | [], s => ⟨1, 0, s.nodes, s.edges, s.depth, [], []⟩
 | x :: l, s =>
  if x ∈ s.reached then searchF b nx inq l s
  else match comeP b s x with
   | (_, some e) => e
   | (s1, none) => match outerF b nx inq FO s1 with
    | (_, some e) => e
    | (s2, none) => searchF b nx inq l s2
def startS : NS := ⟨0, 0, 0, [], [], []⟩
def heldP (n : Int) : Nat := (min (max n 0) 65536).toNat
def searchP (G : GR) (sets : List (List Bool)) (A : AU) (n d : Int) : NF := searchF ⟨heldP n, heldP d⟩ (nextP G sets A) (inP G sets A) (firstP G A) startS
section
variable {b : NB} {nx : PP → List PP} {inq : PP → Bool} {f : Nat} {s : NS} {x y : PP} {k : Nat} {r : List (PP × Nat)}
theorem innerF_nil : innerF b nx (f + 1) s [] = (s, none) := rfl
theorem innerF_pop (h : (nx x)[k]? = none) : innerF b nx (f + 1) s ((x, k) :: r) = innerF b nx f s r := by
 rw [innerF, h]
theorem innerF_fail (h : (nx x)[k]? = some y) (h1 : y ∈ way s.ot) : innerF b nx (f + 1) s ((x, k) :: r) = (edgeS s, some (failP (edgeS s) y ((x, k + 1) :: r))) := by
 rw [innerF, h]
 simp only
 rw [if_pos h1]
theorem innerF_skip (h : (nx x)[k]? = some y) (h1 : y ∉ way s.ot) (h2 : y ∈ s.marked) : innerF b nx (f + 1) s ((x, k) :: r) = innerF b nx f (edgeS s) ((x, k + 1) :: r) := by
 rw [innerF, h]
 simp only
 rw [if_neg h1, if_pos h2]
theorem innerF_over (h : (nx x)[k]? = some y) (h1 : y ∉ way s.ot) (h2 : y ∉ s.marked) (h3 : b.d < s.ot.length + (r.length + 1)) : innerF b nx (f + 1) s ((x, k) :: r) = (markS (edgeS s) y, some (overP (markS (edgeS s) y) 2)) := by
 rw [innerF, h]
 simp only
 rw [if_neg h1, if_neg h2, if_pos h3]
theorem innerF_push (h : (nx x)[k]? = some y) (h1 : y ∉ way s.ot) (h2 : y ∉ s.marked) (h3 : ¬ b.d < s.ot.length + (r.length + 1)) : innerF b nx (f + 1) s ((x, k) :: r) = innerF b nx f (deepS (markS (edgeS s) y) (s.ot.length + (r.length + 1))) ((y, 0) :: (x, k + 1) :: r) := by
 rw [innerF, h]
 simp only
 rw [if_neg h1, if_neg h2, if_neg h3]
theorem outerF_nil (h : s.ot = []) : outerF b nx inq (f + 1) s = (s, none) := by
 rw [outerF, h]
theorem outerF_skip (h : s.ot = (x, k) :: r) (h1 : (nx x)[k]? = some y) (h2 : y ∈ s.reached) : outerF b nx inq (f + 1) s = outerF b nx inq f (atS (edgeS s) ((x, k + 1) :: r)) := by
 rw [outerF, h]
 simp only [h1]
 rw [if_pos h2]
theorem outerF_end (h : s.ot = (x, k) :: r) (h1 : (nx x)[k]? = some y) (h2 : y ∉ s.reached) {s2 : NS} {e : NF} (h3 : comeP b (atS (edgeS s) ((x, k + 1) :: r)) y = (s2, some e)) : outerF b nx inq (f + 1) s = (s2, some e) := by
 rw [outerF, h]
 simp only [h1]
 rw [if_neg h2]
 simp only [h3]
theorem outerF_come (h : s.ot = (x, k) :: r) (h1 : (nx x)[k]? = some y) (h2 : y ∉ s.reached) {s2 : NS} (h3 : comeP b (atS (edgeS s) ((x, k + 1) :: r)) y = (s2, none)) : outerF b nx inq (f + 1) s = outerF b nx inq f s2 := by
 rw [outerF, h]
 simp only [h1]
 rw [if_neg h2]
 simp only [h3]
theorem outerF_fail (h : s.ot = (x, k) :: r) (h1 : (nx x)[k]? = none) (h2 : inq x = true) {s2 : NS} {e : NF} (h3 : innerF b nx FI s [(x, 0)] = (s2, some e)) : outerF b nx inq (f + 1) s = (s2, some e) := by
 rw [outerF, h]
 simp only [h1]
 rw [if_pos h2]
 simp only [h3]
theorem outerF_in (h : s.ot = (x, k) :: r) (h1 : (nx x)[k]? = none) (h2 : inq x = true) {s2 : NS} (h3 : innerF b nx FI s [(x, 0)] = (s2, none)) : outerF b nx inq (f + 1) s = outerF b nx inq f (atS s2 r) := by
 rw [outerF, h]
 simp only [h1]
 rw [if_pos h2]
 simp only [h3]
theorem outerF_pop (h : s.ot = (x, k) :: r) (h1 : (nx x)[k]? = none) (h2 : inq x = false) : outerF b nx inq (f + 1) s = outerF b nx inq f (atS s r) := by
 rw [outerF, h]
 simp only [h1]
 rw [if_neg (by rw [h2]; simp)]
theorem comeP_n (h : b.n ≤ s.nodes) : comeP b s x = (s, some (overP s 1)) := by
 unfold comeP
 rw [if_pos h]
theorem comeP_d (h : ¬ b.n ≤ s.nodes) (h2 : b.d < s.ot.length + 1) : comeP b s x = (reachS s x, some (overP (reachS s x) 2)) := by
 unfold comeP
 rw [if_neg h, if_pos h2]
theorem comeP_ok (h : ¬ b.n ≤ s.nodes) (h2 : ¬ b.d < s.ot.length + 1) : comeP b s x = (pushS (reachS s x) x, none) := by
 unfold comeP
 rw [if_neg h, if_neg h2]
end
theorem way_cons (e : PP × Nat) (l : List (PP × Nat)) : way (e :: l) = way l ++ [e.1] := by simp [way]
theorem way_len (l : List (PP × Nat)) : (way l).length = l.length := by simp [way]
structure Nice (nx : PP → List PP) (p : PP → Prop) (C : Nat) : Prop where
 len : ∀ x, (nx x).length ≤ 144
 val : ∀ x, ∀ y ∈ nx x, p y
 few : ∀ l : List PP, l.Nodup → (∀ x ∈ l, p x) → l.length ≤ C
def rest : List (PP × Nat) → Nat
 | [] => 0
 | e :: l => (146 - e.2) + rest l
structure NInv (b : NB) (nx : PP → List PP) (p : PP → Prop) (s : NS) : Prop where
 rn : s.reached.Nodup
 rv : ∀ x ∈ s.reached, p x
 mn : s.marked.Nodup
 mv : ∀ x ∈ s.marked, p x
 on : (way s.ot).Nodup
 or_ : ∀ x ∈ way s.ot, x ∈ s.reached
 oa : ∀ e ∈ s.ot, e.2 ≤ (nx e.1).length
 nr : s.nodes = s.reached.length
 nb : s.nodes ≤ b.n
 db : s.depth ≤ b.d
 ld : s.ot.length ≤ s.depth
structure IInv (b : NB) (nx : PP → List PP) (p : PP → Prop) (s : NS) (st : List (PP × Nat)) : Prop where
 inv : NInv b nx p s
 sa : ∀ e ∈ st, e.2 ≤ (nx e.1).length
 sd : s.ot.length + st.length ≤ s.depth + 1
section
variable {b : NB} {nx : PP → List PP} {p : PP → Prop} {C : Nat} {s : NS} {x y : PP} {k : Nat} {r : List (PP × Nat)}
theorem get_le {l : List PP} {k : Nat} (h : l[k]? = some y) : k < l.length := (List.getElem?_eq_some_iff.1 h).1
theorem nodup_snoc {l : List PP} {x : PP} (h : l.Nodup) (hx : x ∉ l) : (l ++ [x]).Nodup := by
 rw [List.nodup_append]
 refine ⟨h, by simp, fun a ha b hb => ?_⟩
 simp at hb
 subst hb
 exact fun e => hx (e ▸ ha)
theorem all_snoc_p {l : List PP} {x : PP} {p : PP → Prop} (h : ∀ y ∈ l, p y) (hx : p x) : ∀ y ∈ l ++ [x], p y := by
 intro y hy
 rcases List.mem_append.1 hy with h1 | h1
 ·exact h y h1
 ·rw [List.mem_singleton] at h1; rw [h1]; exact hx
theorem NInv.start (b : NB) (nx : PP → List PP) (p : PP → Prop) : NInv b nx p startS :=
 ⟨List.nodup_nil, by simp [startS], List.nodup_nil, by simp [startS], by simp [startS, way], by simp [startS, way], by simp [startS], rfl, Nat.zero_le _, Nat.zero_le _, Nat.zero_le _⟩
theorem NInv.edge (h : NInv b nx p s) : NInv b nx p (edgeS s) := ⟨h.rn, h.rv, h.mn, h.mv, h.on, h.or_, h.oa, h.nr, h.nb, h.db, h.ld⟩
theorem NInv.mark (h : NInv b nx p s) (hy : y ∉ s.marked) (hp : p y) : NInv b nx p (markS s y) :=
 ⟨h.rn, h.rv, nodup_snoc h.mn hy, all_snoc_p h.mv hp, h.on, h.or_, h.oa, h.nr, h.nb, h.db, h.ld⟩
theorem NInv.deep (h : NInv b nx p s) {d : Nat} (hd : d ≤ b.d) : NInv b nx p (deepS s d) :=
 ⟨h.rn, h.rv, h.mn, h.mv, h.on, h.or_, h.oa, h.nr, h.nb, by show max s.depth d ≤ b.d; have := h.db; omega, by show s.ot.length ≤ max s.depth d; have := h.ld; omega⟩
theorem NInv.step (h : NInv b nx p s) (ho : s.ot = (x, k) :: r) (hk : k < (nx x).length) : NInv b nx p (atS s ((x, k + 1) :: r)) := by
 have hw : way ((x, k + 1) :: r) = way s.ot := by rw [ho, way_cons, way_cons]
 refine ⟨h.rn, h.rv, h.mn, h.mv, ?_, ?_, ?_, h.nr, h.nb, h.db, ?_⟩
 ·show (way ((x, k + 1) :: r)).Nodup
  rw [hw]; exact h.on
 ·show ∀ z ∈ way ((x, k + 1) :: r), z ∈ s.reached
  rw [hw]; exact h.or_
 ·intro e he
  rcases List.mem_cons.1 he with rfl | he
  ·exact hk
  ·exact h.oa e (by rw [ho]; exact .tail _ he)
 ·show ((x, k + 1) :: r).length ≤ s.depth
  have := h.ld
  rw [ho] at this
  exact this
theorem NInv.pop (h : NInv b nx p s) (ho : s.ot = (x, k) :: r) : NInv b nx p (atS s r) := by
 have hw : way s.ot = way r ++ [x] := by rw [ho, way_cons]
 have hon := h.on
 rw [hw, List.nodup_append] at hon
 refine ⟨h.rn, h.rv, h.mn, h.mv, hon.1, fun z hz => h.or_ z (by rw [hw]; exact List.mem_append_left _ hz), fun e he => h.oa e (by rw [ho]; exact .tail _ he), h.nr, h.nb, h.db, ?_⟩
 show r.length ≤ s.depth
 have := h.ld
 rw [ho, List.length_cons] at this
 omega
theorem NInv.come (h : NInv b nx p s) (hx : x ∉ s.reached) (hp : p x) (h1 : ¬ b.n ≤ s.nodes) (h2 : ¬ b.d < s.ot.length + 1) : NInv b nx p (pushS (reachS s x) x) := by
 have hxo : x ∉ way s.ot := fun hh => hx (h.or_ x hh)
 refine ⟨nodup_snoc h.rn hx, all_snoc_p h.rv hp, h.mn, h.mv, ?_, ?_, ?_, ?_, ?_, ?_, ?_⟩
 ·show (way ((x, 0) :: s.ot)).Nodup
  rw [way_cons]
  exact nodup_snoc h.on hxo
 ·show ∀ z ∈ way ((x, 0) :: s.ot), z ∈ s.reached ++ [x]
  rw [way_cons]
  intro z hz
  rcases List.mem_append.1 hz with h3 | h3
  ·exact List.mem_append_left _ (h.or_ z h3)
  ·exact List.mem_append_right _ h3
 ·intro e he
  rcases List.mem_cons.1 he with rfl | he
  ·exact Nat.zero_le _
  ·exact h.oa e he
 ·show s.nodes + 1 = (s.reached ++ [x]).length
  rw [List.length_append, h.nr]; rfl
 ·show s.nodes + 1 ≤ b.n
  omega
 ·show max s.depth (s.ot.length + 1) ≤ b.d
  have := h.db
  omega
 ·show ((x, 0) :: s.ot).length ≤ max s.depth (s.ot.length + 1)
  rw [List.length_cons]
  omega
theorem NInv.reach (h : NInv b nx p s) (hx : x ∉ s.reached) (hp : p x) (h1 : ¬ b.n ≤ s.nodes) : NInv b nx p (reachS s x) := by
 refine ⟨nodup_snoc h.rn hx, all_snoc_p h.rv hp, h.mn, h.mv, h.on, fun z hz => List.mem_append_left _ (h.or_ z hz), h.oa, ?_, ?_, h.db, h.ld⟩
 ·show s.nodes + 1 = (s.reached ++ [x]).length
  rw [List.length_append, h.nr]; rfl
 ·show s.nodes + 1 ≤ b.n
  omega
theorem IInv.start (h : NInv b nx p s) (ho : s.ot = (x, k) :: r) : IInv b nx p s [(x, 0)] :=
 ⟨h, fun e he => by rw [List.mem_singleton] at he; rw [he]; exact Nat.zero_le _, by have := h.ld; simp; omega⟩
theorem IInv.pop (h : IInv b nx p s ((x, k) :: r)) : IInv b nx p s r := ⟨h.inv, fun e he => h.sa e (.tail _ he), by have := h.sd; simp at this; omega⟩
theorem IInv.skip (h : IInv b nx p s ((x, k) :: r)) (hk : k < (nx x).length) : IInv b nx p (edgeS s) ((x, k + 1) :: r) :=
 ⟨h.inv.edge, fun e he => by
  rcases List.mem_cons.1 he with rfl | he
  ·exact hk
  ·exact h.sa e (.tail _ he), h.sd⟩
theorem IInv.push (h : IInv b nx p s ((x, k) :: r)) (hk : k < (nx x).length) (hy : y ∉ s.marked) (hp : p y) (hd : ¬ b.d < s.ot.length + (r.length + 1)) : IInv b nx p (deepS (markS (edgeS s) y) (s.ot.length + (r.length + 1))) ((y, 0) :: (x, k + 1) :: r) := by
 refine ⟨(NInv.mark (h.inv.edge) hy hp).deep (by omega), fun e he => ?_, ?_⟩
 ·rcases List.mem_cons.1 he with rfl | he
  ·exact Nat.zero_le _
  ·exact (h.skip hk).sa e he
 ·show s.ot.length + (r.length + 1 + 1) ≤ max s.depth (s.ot.length + (r.length + 1)) + 1
  omega
def muI (C : Nat) (s : NS) (st : List (PP × Nat)) : Nat := 146 * (C - s.marked.length) + rest st
theorem muI_pop (N : Nice nx p C) (h : IInv b nx p s ((x, k) :: r)) : muI C s r < muI C s ((x, k) :: r) := by
 have h1 := h.sa (x, k) (.head _)
 have h2 := N.len x
 unfold muI
 show _ < _ + ((146 - k) + rest r)
 simp only at h1
 omega
theorem muI_skip (N : Nice nx p C) (hk : k < (nx x).length) : muI C (edgeS s) ((x, k + 1) :: r) < muI C s ((x, k) :: r) := by
 have h2 := N.len x
 unfold muI
 show 146 * (C - s.marked.length) + ((146 - (k + 1)) + rest r) < 146 * (C - s.marked.length) + ((146 - k) + rest r)
 omega
theorem muI_push (N : Nice nx p C) (h : IInv b nx p s ((x, k) :: r)) (hk : k < (nx x).length) (hy : y ∉ s.marked) (hp : p y) (d : Nat) : muI C (deepS (markS (edgeS s) y) d) ((y, 0) :: (x, k + 1) :: r) < muI C s ((x, k) :: r) := by
 have h2 := N.len x
 have h3 := N.few _ (nodup_snoc h.inv.mn hy) (all_snoc_p h.inv.mv hp)
 rw [List.length_append, List.length_cons, List.length_nil] at h3
 unfold muI
 show 146 * (C - (s.marked ++ [y]).length) + ((146 - 0) + ((146 - (k + 1)) + rest r)) < 146 * (C - s.marked.length) + ((146 - k) + rest r)
 rw [List.length_append, List.length_cons, List.length_nil]
 omega
theorem muI_start (C : Nat) (s : NS) (x : PP) (hC : C ≤ 3200) : muI C s [(x, 0)] < FI := by
 unfold muI FI
 show 146 * (C - s.marked.length) + ((146 - 0) + 0) < 500000
 omega
def muO (C : Nat) (s : NS) : Nat := 146 * (C - s.reached.length) + rest s.ot
theorem muO_step (N : Nice nx p C) (ho : s.ot = (x, k) :: r) (hk : k < (nx x).length) : muO C (atS (edgeS s) ((x, k + 1) :: r)) < muO C s := by
 have h2 := N.len x
 unfold muO
 rw [ho]
 show 146 * (C - s.reached.length) + ((146 - (k + 1)) + rest r) < 146 * (C - s.reached.length) + ((146 - k) + rest r)
 omega
theorem muO_come (N : Nice nx p C) (h : NInv b nx p s) (hx : x ∉ s.reached) (hp : p x) : muO C (pushS (reachS s x) x) ≤ muO C s := by
 have h3 := N.few _ (nodup_snoc h.rn hx) (all_snoc_p h.rv hp)
 rw [List.length_append, List.length_cons, List.length_nil] at h3
 unfold muO
 show 146 * (C - (s.reached ++ [x]).length) + ((146 - 0) + rest s.ot) ≤ _
 rw [List.length_append, List.length_cons, List.length_nil]
 omega
theorem muO_pop (N : Nice nx p C) (h : NInv b nx p s) (ho : s.ot = (x, k) :: r) {s1 : NS} (h1 : s1.reached = s.reached) : muO C (atS s1 r) < muO C s := by
 have h2 := N.len x
 have h3 := h.oa (x, k) (by rw [ho]; exact .head _)
 unfold muO
 rw [ho]
 show 146 * (C - s1.reached.length) + rest r < 146 * (C - s.reached.length) + ((146 - k) + rest r)
 rw [h1]
 simp only at h3
 omega
theorem muO_start (C : Nat) (s : NS) (x : PP) (h : s.ot = []) (hC : C ≤ 3200) : muO C (pushS s x) < FO := by
 unfold muO FO
 show 146 * (C - s.reached.length) + ((146 - 0) + rest s.ot) < 500000
 rw [h]
 show 146 * (C - s.reached.length) + ((146 - 0) + 0) < 500000
 omega
end
end Go.Proofs.Ytfcpfcgcfaacnaa
