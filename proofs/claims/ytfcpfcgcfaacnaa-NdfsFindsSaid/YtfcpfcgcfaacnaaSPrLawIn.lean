/- A law's arguments: a graph, sets, an automaton. No conditions. -/
import Derived.Test.YtfcpfcgcfaacnaaSPrNew
import Derived.Test.YtfcpfcgcfaacnaaSPrNext
import Derived.Test.YtfcpfcgcfaacnaaSPrRin
namespace Go.Proofs.Ytfcpfcgcfaacnaa
open Go.RowKit
abbrev gcells (X : RX) (G : GR) : List Value := [.slice X.ai G.init.length X.ci, .slice X.ae G.edges.length X.ce, .slice X.al G.labels.length X.cl]
abbrev acells (X : RX) (A : AU) : List Value := [.int .i64 A.sets, .slice X.bi A.init.length X.di, .slice X.bn A.nodes.length X.dn]
structure LawIn (W : World) (X : RX) (G : GR) (sets : List (List Bool)) (A : AU) : Prop where
 g : GAt W X.ai X.ae X.al G
 s : SetsAt W X.as_ sets
 au : AuAt W X.bi A.init.length X.bn A.nodes.length A
 ok : GOk G
 aok : AuOk A
theorem LawIn.of {W : World} {c : Array Value} {G : GR} (h : rGR W c.toList G) {v : Value} {sets : List (List Bool)} (hv : rSl 1 24 (rSl 1 1 rBool) W [v] sets) {ca : Array Value} {A : AU} (ha : rAU W ca.toList A) :
  ∃ X : RX, c = (gcells X G).toArray ∧ v = .slice X.as_ sets.length X.cs ∧ ca = (acells X A).toArray ∧ LawIn W X G sets A := by
 obtain ⟨ai, ci, ae, ce, al, cl, hc, hG, ok⟩ := GAt.of_rGR h
 obtain ⟨as_, cs, rfl, hS⟩ := SetsAt.of_rSl hv
 obtain ⟨bi, di, bn, dn, hca, hA, aok, _, _⟩ := AuAt.of_rAU ha
 exact ⟨⟨ai, ae, al, as_, bi, bn, ci, ce, cl, cs, di, dn⟩, by cases c; simpa using hc, rfl, by cases ca; simpa using hca, hG, hS, hA, ok, aok⟩
theorem firstP_len {G : GR} {sets : List (List Bool)} {A : AU} (lt : Lt G sets A) : (firstP G A).length ≤ 400 := by
 have h := firstTo_len G A G.init
 have h1 := lt.i
 have h2 := lt.ai
 have h3 : G.init.length * A.init.length ≤ 20 * 20 := Nat.mul_le_mul h1 h2
 show (firstTo G A G.init).length ≤ 400
 omega
end Go.Proofs.Ytfcpfcgcfaacnaa
