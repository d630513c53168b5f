/-
  No cell of these rows narrows 'for every input' (looked for: loops, veiled, ifaces, maps, wideKeys, modest, calm, conditions, laid).
  DERIVED. THE GIVEN ROWS OF THIS SEAT. 5 by the template 'for every input the law returns true; each argument reads behind the call as it read before'; 0 by the template 'total and deterministic' (their statements: YtmlbjfaofppikaaTotals.lean).
  GIVEN WITH THE SEED: the statements are not yours to turn. If you find one false, say at which input.
  Laid BY PROGRAM, IN A SANDBOX (cutbox-rows.mjs): the forced cells as the released guide's own fill.sh prints them over the translation a9a41fcbdde2f75e… (all of the seat's roots in one cut). By AI agents, Wed Nov 11 2026. No macro, syntax, notation, axiom, sorry.
-/
import Derived.Test.YtmlbjfaofppikaaChecked
import GoSem.Claim
import GoSem.ClaimJoined
import GoSem.ClaimMapViews
import Derived.JoinedTies
import Derived.KernelRfl
namespace Go.Proofs.Ytmlbjfaofppikaa
/- THE CELL 'sum', in the pinned program and in every row, IS THE sha256 OF THE DUMP (.gsa) THAT YtmlbjfaofppikaaProg.lean LOADS. Nothing in Lean hashes anything: it is a label: what it is worth is what the hold of that sum in a sandbox is worth. -/
noncomputable def Try.pinned : Pinned := { name := "ytmlbjfaofppikaa", sum := "a9a41fcbdde2f75effa9e12a1e286a31a8fd4959f5acfe0c6313cbe30c7e84cd", checked := Try.checked }
namespace Rows
def none {H : Type} : Left H := { results := [], args := [] }

/-- 'lariatlaw37.ProdTells': WHATEVER THE INPUT: true; the input reads as it did. -/
def prodTellsSpec : ChangeSpec := { name := "prodTells", fn := fun _ => fun
  | [d1, d2, d3, d4] => { results := [.lit (.bool true)], args := [d1, d2, d3, d4] }
  | _ => none }
def prodTellsRow : OpenClaim := { program := "ytmlbjfaofppikaa", sum := "a9a41fcbdde2f75effa9e12a1e286a31a8fd4959f5acfe0c6313cbe30c7e84cd", func := "lariat/lariatlaw37.ProdTells", spec := "prodTells", unfollowed := true, recurses := true, plainKeys := false, apart := false }
def ProdTellsSaid : Prop := prodTellsRow.holds Try.pinned (OpenSpec.ofChange prodTellsSpec)

/-- ITS FALSE NEIGHBOUR: 'it returns false'. Refute it at one input. -/
def prodTellsWrong : ChangeSpec := { name := "prodTells", fn := fun _ => fun
  | [d1, d2, d3, d4] => { results := [.lit (.bool false)], args := [d1, d2, d3, d4] }
  | _ => none }
def ProdTellsWrongFalsely : Prop := prodTellsRow.holds Try.pinned (OpenSpec.ofChange prodTellsWrong)

/-- 'lariatlaw37.ProdNobody': WHATEVER THE INPUT: true; the input reads as it did. -/
def prodNobodySpec : ChangeSpec := { name := "prodNobody", fn := fun _ => fun
  | [d] => { results := [.lit (.bool true)], args := [d] }
  | _ => none }
def prodNobodyRow : OpenClaim := { program := "ytmlbjfaofppikaa", sum := "a9a41fcbdde2f75effa9e12a1e286a31a8fd4959f5acfe0c6313cbe30c7e84cd", func := "lariat/lariatlaw37.ProdNobody", spec := "prodNobody", unfollowed := true, recurses := true, plainKeys := false, apart := false }
def ProdNobodySaid : Prop := prodNobodyRow.holds Try.pinned (OpenSpec.ofChange prodNobodySpec)

/-- ITS FALSE NEIGHBOUR: 'it returns false'. Refute it at one input. -/
def prodNobodyWrong : ChangeSpec := { name := "prodNobody", fn := fun _ => fun
  | [d] => { results := [.lit (.bool false)], args := [d] }
  | _ => none }
def ProdNobodyWrongFalsely : Prop := prodNobodyRow.holds Try.pinned (OpenSpec.ofChange prodNobodyWrong)

/-- 'lariatlaw37.ProdWhole': WHATEVER THE INPUT: true; the input reads as it did. -/
def prodWholeSpec : ChangeSpec := { name := "prodWhole", fn := fun _ => fun
  | [d1, d2, d3, d4] => { results := [.lit (.bool true)], args := [d1, d2, d3, d4] }
  | _ => none }
def prodWholeRow : OpenClaim := { program := "ytmlbjfaofppikaa", sum := "a9a41fcbdde2f75effa9e12a1e286a31a8fd4959f5acfe0c6313cbe30c7e84cd", func := "lariat/lariatlaw37.ProdWhole", spec := "prodWhole", unfollowed := true, recurses := true, plainKeys := false, apart := false }
def ProdWholeSaid : Prop := prodWholeRow.holds Try.pinned (OpenSpec.ofChange prodWholeSpec)

/-- ITS FALSE NEIGHBOUR: 'it returns false'. Refute it at one input. -/
def prodWholeWrong : ChangeSpec := { name := "prodWhole", fn := fun _ => fun
  | [d1, d2, d3, d4] => { results := [.lit (.bool false)], args := [d1, d2, d3, d4] }
  | _ => none }
def ProdWholeWrongFalsely : Prop := prodWholeRow.holds Try.pinned (OpenSpec.ofChange prodWholeWrong)

/-- 'lariatlaw37.ProdBoth': WHATEVER THE INPUT: true; the input reads as it did. -/
def prodBothSpec : ChangeSpec := { name := "prodBoth", fn := fun _ => fun
  | [d1, d2, d3] => { results := [.lit (.bool true)], args := [d1, d2, d3] }
  | _ => none }
def prodBothRow : OpenClaim := { program := "ytmlbjfaofppikaa", sum := "a9a41fcbdde2f75effa9e12a1e286a31a8fd4959f5acfe0c6313cbe30c7e84cd", func := "lariat/lariatlaw37.ProdBoth", spec := "prodBoth", unfollowed := true, recurses := true, plainKeys := false, apart := false }
def ProdBothSaid : Prop := prodBothRow.holds Try.pinned (OpenSpec.ofChange prodBothSpec)

/-- ITS FALSE NEIGHBOUR: 'it returns false'. Refute it at one input. -/
def prodBothWrong : ChangeSpec := { name := "prodBoth", fn := fun _ => fun
  | [d1, d2, d3] => { results := [.lit (.bool false)], args := [d1, d2, d3] }
  | _ => none }
def ProdBothWrongFalsely : Prop := prodBothRow.holds Try.pinned (OpenSpec.ofChange prodBothWrong)

/-- 'lariatlaw37.ProdTurns': WHATEVER THE INPUT: true; the input reads as it did. -/
def prodTurnsSpec : ChangeSpec := { name := "prodTurns", fn := fun _ => fun
  | [d1, d2, d3] => { results := [.lit (.bool true)], args := [d1, d2, d3] }
  | _ => none }
def prodTurnsRow : OpenClaim := { program := "ytmlbjfaofppikaa", sum := "a9a41fcbdde2f75effa9e12a1e286a31a8fd4959f5acfe0c6313cbe30c7e84cd", func := "lariat/lariatlaw37.ProdTurns", spec := "prodTurns", unfollowed := true, recurses := true, plainKeys := false, apart := false }
def ProdTurnsSaid : Prop := prodTurnsRow.holds Try.pinned (OpenSpec.ofChange prodTurnsSpec)

/-- ITS FALSE NEIGHBOUR: 'it returns false'. Refute it at one input. -/
def prodTurnsWrong : ChangeSpec := { name := "prodTurns", fn := fun _ => fun
  | [d1, d2, d3] => { results := [.lit (.bool false)], args := [d1, d2, d3] }
  | _ => none }
def ProdTurnsWrongFalsely : Prop := prodTurnsRow.holds Try.pinned (OpenSpec.ofChange prodTurnsWrong)

/- THE SECOND FORM. 'bulk': how many values and letters a reading holds, each counted each time it is reached (what is shared counts as often as it is met; a slice's spare places count too). A statement '..UptoSaid' is the law's where the arguments, and the package variables that the reading takes, are together of bulk at most 1048576: NARROWER than '..Said'. Prove '..Said' where nothing that the law and all that it calls make is longer than what came in: it says more and counts as full. Else prove '..UptoSaid'. A law counts once. -/
mutual
def uptoBulk {H : Type} : DataW H → Nat
  | .lit (.string bytes) => bytes.length + 1
  | .lit _ => 1
  | .nil => 1
  | .ptr d => uptoBulk d + 1
  | .slice elems spare => uptoBulkAll elems + uptoBulkAll spare + 1
  | .agg parts => uptoBulkAll parts + 1
  | .iface _ d => uptoBulk d + 1
  | .map entries => uptoBulkEntries entries + 1
  | .held _ => 1
def uptoBulkAll {H : Type} : List (DataW H) → Nat
  | [] => 0
  | d :: r => uptoBulk d + uptoBulkAll r
def uptoBulkEntries {H : Type} : List (Lit × DataW H) → Nat
  | [] => 0
  | x :: r => uptoBulkEntry x + uptoBulkEntries r
def uptoBulkEntry {H : Type} : Lit × DataW H → Nat
  | (.string bytes, d) => bytes.length + uptoBulk d + 1
  | (_, d) => uptoBulk d + 1
 end
def uptoSmall : (H : Type) → List (DataW H) → Bool := fun _ ds => decide (uptoBulkAll ds ≤ 1048576)
def OpenSpec.upto (s : _root_.Go.ChangeSpec) : _root_.Go.OpenSpec := { _root_.Go.OpenSpec.ofChange s with cond := some uptoSmall }

/-- 'lariatlaw37.ProdTells', WHERE WHAT IT READS IS OF BULK AT MOST 1048576: true; the input reads as it did. -/
def prodTellsUptoRow : OpenClaim := { program := "ytmlbjfaofppikaa", sum := "a9a41fcbdde2f75effa9e12a1e286a31a8fd4959f5acfe0c6313cbe30c7e84cd", func := "lariat/lariatlaw37.ProdTells", spec := "prodTells", unfollowed := true, recurses := true, plainKeys := false, apart := false, narrowed := true }
def ProdTellsUptoSaid : Prop := prodTellsUptoRow.holds Try.pinned (OpenSpec.upto prodTellsSpec)

/-- 'lariatlaw37.ProdNobody', WHERE WHAT IT READS IS OF BULK AT MOST 1048576: true; the input reads as it did. -/
def prodNobodyUptoRow : OpenClaim := { program := "ytmlbjfaofppikaa", sum := "a9a41fcbdde2f75effa9e12a1e286a31a8fd4959f5acfe0c6313cbe30c7e84cd", func := "lariat/lariatlaw37.ProdNobody", spec := "prodNobody", unfollowed := true, recurses := true, plainKeys := false, apart := false, narrowed := true }
def ProdNobodyUptoSaid : Prop := prodNobodyUptoRow.holds Try.pinned (OpenSpec.upto prodNobodySpec)

/-- 'lariatlaw37.ProdWhole', WHERE WHAT IT READS IS OF BULK AT MOST 1048576: true; the input reads as it did. -/
def prodWholeUptoRow : OpenClaim := { program := "ytmlbjfaofppikaa", sum := "a9a41fcbdde2f75effa9e12a1e286a31a8fd4959f5acfe0c6313cbe30c7e84cd", func := "lariat/lariatlaw37.ProdWhole", spec := "prodWhole", unfollowed := true, recurses := true, plainKeys := false, apart := false, narrowed := true }
def ProdWholeUptoSaid : Prop := prodWholeUptoRow.holds Try.pinned (OpenSpec.upto prodWholeSpec)

/-- 'lariatlaw37.ProdBoth', WHERE WHAT IT READS IS OF BULK AT MOST 1048576: true; the input reads as it did. -/
def prodBothUptoRow : OpenClaim := { program := "ytmlbjfaofppikaa", sum := "a9a41fcbdde2f75effa9e12a1e286a31a8fd4959f5acfe0c6313cbe30c7e84cd", func := "lariat/lariatlaw37.ProdBoth", spec := "prodBoth", unfollowed := true, recurses := true, plainKeys := false, apart := false, narrowed := true }
def ProdBothUptoSaid : Prop := prodBothUptoRow.holds Try.pinned (OpenSpec.upto prodBothSpec)

/-- 'lariatlaw37.ProdTurns', WHERE WHAT IT READS IS OF BULK AT MOST 1048576: true; the input reads as it did. -/
def prodTurnsUptoRow : OpenClaim := { program := "ytmlbjfaofppikaa", sum := "a9a41fcbdde2f75effa9e12a1e286a31a8fd4959f5acfe0c6313cbe30c7e84cd", func := "lariat/lariatlaw37.ProdTurns", spec := "prodTurns", unfollowed := true, recurses := true, plainKeys := false, apart := false, narrowed := true }
def ProdTurnsUptoSaid : Prop := prodTurnsUptoRow.holds Try.pinned (OpenSpec.upto prodTurnsSpec)

end Rows
end Go.Proofs.Ytmlbjfaofppikaa
