/- The product in plain numbers. No conditions. -/
import Derived.Test.YtmlbjfaofppikaaPrChk
namespace Go.Proofs.Ytmlbjfaofppikaa

/-- a pair of the product: a node, a state, a turn -/
structure PP where
  node : Int
  state : Int
  turn : Int
deriving DecidableEq, Inhabited
/-- the bits of a node: of which sets it is -/
def bitsN (sets : List (List Bool)) (i : Nat) : Nat → Nat
  | 0 => 0
  | k + 1 => if (sets.getD k []).getD i false then bitsN sets i k ||| 2 ^ k else bitsN sets i k
def inbits (n : Nat) (sets : List (List Bool)) : List Nat := (List.range n).map fun i => bitsN sets i sets.length
/-- whether a graph with sets is a source -/
def srcB (G : GR) (sets : List (List Bool)) : Bool := decide (gchk G = 0) && decide (sets.length ≤ 16) && sets.all fun s => decide (s.length = G.edges.length)
/-- whether there is a product -/
def newB (G : GR) (sets : List (List Bool)) (A : AU) : Bool := srcB G sets && decide (chk A = 0)
def readsB (x : AN) (lab : Nat) : Bool := (lab &&& x.need == x.need) && (lab &&& x.ban == 0)
def inG (n : Nat) (x : Int) : Bool := decide (0 ≤ x) && decide (x < (n : Int))
def labP (G : GR) (x : Int) : Nat := if inG G.edges.length x then G.labels.getD x.toNat 0 else 0
def edgesP (G : GR) (x : Int) : List PR := if inG G.edges.length x then G.edges.getD x.toNat [] else []
def nodeP (A : AU) (q : Int) : AN := A.nodes.getD q.toNat ⟨0, 0, 0, []⟩
def addP (l : List PP) (x : PP) : List PP := if x ∈ l then l else l ++ [x]
def pairsP (A : AU) (lab : Nat) (node turn : Int) (out : List PP) (states : List Int) : List PP :=
  states.foldl (fun out q => if readsB (nodeP A q) lab then addP out ⟨node, q, turn⟩ else out) out
def allS (sets : List (List Bool)) (A : AU) : Nat := A.sets.toNat + sets.length
def firstP (G : GR) (A : AU) : List PP := G.init.foldl (fun out n => pairsP A (labP G n) n 0 out A.init) []
def isP (sets : List (List Bool)) (A : AU) (x : PP) : Bool := inG A.nodes.length x.state && inG (max (allS sets A) 1) x.turn
def bitB (u : Nat) (t : Nat) : Bool := u.testBit t
def inbP (G : GR) (sets : List (List Bool)) (x : Int) : Nat := if inG G.edges.length x then (inbits G.edges.length sets).getD x.toNat 0 else 0
def ofP (G : GR) (sets : List (List Bool)) (A : AU) (x : PP) : Bool :=
  if x.turn < A.sets then bitB (nodeP A x.state).inn x.turn.toNat else bitB (inbP G sets x.node) (x.turn - A.sets).toNat
def turnP (G : GR) (sets : List (List Bool)) (A : AU) (x : PP) : Int := if 0 < allS sets A ∧ ofP G sets A x = true then (x.turn + 1) % (allS sets A : Int) else x.turn
def nextP (G : GR) (sets : List (List Bool)) (A : AU) (x : PP) : List PP :=
  if isP sets A x then (edgesP G x.node).foldl (fun out e => pairsP A (labP G e.1) e.1 (turnP G sets A x) out (nodeP A x.state).to) [] else []
def inP (G : GR) (sets : List (List Bool)) (A : AU) (x : PP) : Bool := isP sets A x && (decide (allS sets A = 0) || (decide (x.turn = 0) && ofP G sets A x))
def edgeP (G : GR) (sets : List (List Bool)) (A : AU) (a b : PP) : Option PR := if b ∈ nextP G sets A a then (edgesP G a.node).find? (fun e => e.1 == b.node) else none

theorem pairsP_snoc (A : AU) (lab : Nat) (node turn : Int) (out : List PP) (states : List Int) (q : Int) :
    pairsP A lab node turn out (states ++ [q]) = if readsB (nodeP A q) lab then addP (pairsP A lab node turn out states) ⟨node, q, turn⟩ else pairsP A lab node turn out states := by
  simp [pairsP]
theorem addP_nodup {l : List PP} {x : PP} (h : l.Nodup) : (addP l x).Nodup := by
  unfold addP
  split
  · exact h
  · rename_i hx
    rw [List.nodup_append]
    refine ⟨h, by simp, fun a ha b hb => ?_⟩
    simp at hb
    subst hb
    exact fun e => hx (e ▸ ha)
theorem addP_len (l : List PP) (x : PP) : (addP l x).length ≤ l.length + 1 := by
  unfold addP
  split <;> simp
theorem pairsP_nodup (A : AU) (lab : Nat) (node turn : Int) : ∀ (states : List Int) (out : List PP), out.Nodup → (pairsP A lab node turn out states).Nodup
  | [], _, h => h
  | q :: s, out, h => by
    simp only [pairsP, List.foldl_cons]
    refine pairsP_nodup A lab node turn s _ ?_
    split
    · exact addP_nodup h
    · exact h
theorem pairsP_len (A : AU) (lab : Nat) (node turn : Int) : ∀ (states : List Int) (out : List PP), (pairsP A lab node turn out states).length ≤ out.length + states.length
  | [], _ => by simp [pairsP]
  | q :: s, out => by
    have ih := pairsP_len A lab node turn s (if readsB (nodeP A q) lab then addP out ⟨node, q, turn⟩ else out)
    simp only [pairsP, List.foldl_cons] at ih ⊢
    have : (if readsB (nodeP A q) lab then addP out ⟨node, q, turn⟩ else out).length ≤ out.length + 1 := by
      split
      · exact addP_len _ _
      · omega
    simp only [List.length_cons]
    omega
/-- all pairs of a list are of Go's int -/
def okPP (x : PP) : Prop := (Lit.int .i64 x.node).wf = true ∧ (Lit.int .i64 x.state).wf = true ∧ (Lit.int .i64 x.turn).wf = true
theorem addP_all {p : PP → Prop} {l : List PP} {x : PP} (h : ∀ y ∈ l, p y) (hx : p x) : ∀ y ∈ addP l x, p y := by
  intro y hy
  unfold addP at hy
  split at hy
  · exact h y hy
  · rcases List.mem_append.1 hy with h1 | h1
    · exact h y h1
    · simp at h1
      subst h1
      exact hx
theorem pairsP_all {p : PP → Prop} (A : AU) (lab : Nat) (node turn : Int) : ∀ (states : List Int) (out : List PP), (∀ y ∈ out, p y) → (∀ q ∈ states, p ⟨node, q, turn⟩) → ∀ y ∈ pairsP A lab node turn out states, p y
  | [], _, h, _ => h
  | q :: s, out, h, hs => by
    simp only [pairsP, List.foldl_cons]
    refine pairsP_all A lab node turn s _ ?_ (fun q' hq' => hs q' (by simp [hq']))
    split
    · exact addP_all h (hs q (by simp))
    · exact h
end Go.Proofs.Ytmlbjfaofppikaa
