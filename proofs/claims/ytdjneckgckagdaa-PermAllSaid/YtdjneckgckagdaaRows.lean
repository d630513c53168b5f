/-
  No cell of these rows narrows 'for every input' (looked for: loops, veiled, ifaces, maps, wideKeys, modest, calm, conditions, laid).
  DERIVED. THE GIVEN ROWS OF THIS SEAT. 5 by the template 'for every input the law returns true; each argument reads behind the call as it read before'; 0 by the template 'total and deterministic' (their statements: YtdjneckgckagdaaTotals.lean).
  GIVEN WITH THE SEED: the statements are not yours to turn. If you find one false, say at which input.
  Laid BY PROGRAM, IN A SANDBOX (cutbox-rows.mjs): the forced cells as the released guide's own fill.sh prints them over the translation 21d7db5e889e050d… (all of the seat's roots in one cut). By AI agents, Wed Nov 11 2026. No macro, syntax, notation, axiom, sorry.
-/
import Derived.Test.YtdjneckgckagdaaChecked
import GoSem.Claim
import GoSem.ClaimJoined
import GoSem.ClaimMapViews
import Derived.JoinedTies
import Derived.KernelRfl
namespace Go.Proofs.Ytdjneckgckagdaa
/- THE CELL 'sum', in the pinned program and in every row, IS THE sha256 OF THE DUMP (.gsa) THAT YtdjneckgckagdaaProg.lean LOADS. Nothing in Lean hashes anything: it is a label: what it is worth is what the hold of that sum in a sandbox is worth. -/
noncomputable def Try.pinned : Pinned := { name := "ytdjneckgckagdaa", sum := "21d7db5e889e050d5cbcd039b76e73677223f54d95db5811dd43184b502d9fed", checked := Try.checked }
namespace Rows
def none {H : Type} : Left H := { results := [], args := [] }

/-- 'lariatlaw08.PermMuls': WHATEVER THE INPUT: true; the input reads as it did. -/
def permMulsSpec : ChangeSpec := { name := "permMuls", fn := fun _ => fun
  | [d1, d2, d3] => { results := [.lit (.bool true)], args := [d1, d2, d3] }
  | _ => none }
def permMulsRow : OpenClaim := { program := "ytdjneckgckagdaa", sum := "21d7db5e889e050d5cbcd039b76e73677223f54d95db5811dd43184b502d9fed", func := "lariat/lariatlaw08.PermMuls", spec := "permMuls", apart := false }
def PermMulsSaid : Prop := permMulsRow.holds Try.pinned (OpenSpec.ofChange permMulsSpec)

/-- ITS FALSE NEIGHBOUR: 'it returns false'. Refute it at one input. -/
def permMulsWrong : ChangeSpec := { name := "permMuls", fn := fun _ => fun
  | [d1, d2, d3] => { results := [.lit (.bool false)], args := [d1, d2, d3] }
  | _ => none }
def PermMulsWrongFalsely : Prop := permMulsRow.holds Try.pinned (OpenSpec.ofChange permMulsWrong)

/-- 'lariatlaw08.PermTells': WHATEVER THE INPUT: true; the input reads as it did. -/
def permTellsSpec : ChangeSpec := { name := "permTells", fn := fun _ => fun
  | [d1, d2] => { results := [.lit (.bool true)], args := [d1, d2] }
  | _ => none }
def permTellsRow : OpenClaim := { program := "ytdjneckgckagdaa", sum := "21d7db5e889e050d5cbcd039b76e73677223f54d95db5811dd43184b502d9fed", func := "lariat/lariatlaw08.PermTells", spec := "permTells", apart := false }
def PermTellsSaid : Prop := permTellsRow.holds Try.pinned (OpenSpec.ofChange permTellsSpec)

/-- ITS FALSE NEIGHBOUR: 'it returns false'. Refute it at one input. -/
def permTellsWrong : ChangeSpec := { name := "permTells", fn := fun _ => fun
  | [d1, d2] => { results := [.lit (.bool false)], args := [d1, d2] }
  | _ => none }
def PermTellsWrongFalsely : Prop := permTellsRow.holds Try.pinned (OpenSpec.ofChange permTellsWrong)

/-- 'lariatlaw08.PermGroup': WHATEVER THE INPUT: true; the input reads as it did. -/
def permGroupSpec : ChangeSpec := { name := "permGroup", fn := fun _ => fun
  | [d1, d2, d3] => { results := [.lit (.bool true)], args := [d1, d2, d3] }
  | _ => none }
def permGroupRow : OpenClaim := { program := "ytdjneckgckagdaa", sum := "21d7db5e889e050d5cbcd039b76e73677223f54d95db5811dd43184b502d9fed", func := "lariat/lariatlaw08.PermGroup", spec := "permGroup", apart := false }
def PermGroupSaid : Prop := permGroupRow.holds Try.pinned (OpenSpec.ofChange permGroupSpec)

/-- ITS FALSE NEIGHBOUR: 'it returns false'. Refute it at one input. -/
def permGroupWrong : ChangeSpec := { name := "permGroup", fn := fun _ => fun
  | [d1, d2, d3] => { results := [.lit (.bool false)], args := [d1, d2, d3] }
  | _ => none }
def PermGroupWrongFalsely : Prop := permGroupRow.holds Try.pinned (OpenSpec.ofChange permGroupWrong)

/-- 'lariatlaw08.PermRanks': WHATEVER THE INPUT: true; the input reads as it did. -/
def permRanksSpec : ChangeSpec := { name := "permRanks", fn := fun _ => fun
  | [d1, d2, d3] => { results := [.lit (.bool true)], args := [d1, d2, d3] }
  | _ => none }
def permRanksRow : OpenClaim := { program := "ytdjneckgckagdaa", sum := "21d7db5e889e050d5cbcd039b76e73677223f54d95db5811dd43184b502d9fed", func := "lariat/lariatlaw08.PermRanks", spec := "permRanks", apart := false }
def PermRanksSaid : Prop := permRanksRow.holds Try.pinned (OpenSpec.ofChange permRanksSpec)

/-- ITS FALSE NEIGHBOUR: 'it returns false'. Refute it at one input. -/
def permRanksWrong : ChangeSpec := { name := "permRanks", fn := fun _ => fun
  | [d1, d2, d3] => { results := [.lit (.bool false)], args := [d1, d2, d3] }
  | _ => none }
def PermRanksWrongFalsely : Prop := permRanksRow.holds Try.pinned (OpenSpec.ofChange permRanksWrong)

/-- 'lariatlaw08.PermAll': WHATEVER THE INPUT: true; the input reads as it did. -/
def permAllSpec : ChangeSpec := { name := "permAll", fn := fun _ => fun
  | [d] => { results := [.lit (.bool true)], args := [d] }
  | _ => none }
def permAllRow : OpenClaim := { program := "ytdjneckgckagdaa", sum := "21d7db5e889e050d5cbcd039b76e73677223f54d95db5811dd43184b502d9fed", func := "lariat/lariatlaw08.PermAll", spec := "permAll", unfollowed := true, recurses := true, apart := false }
def PermAllSaid : Prop := permAllRow.holds Try.pinned (OpenSpec.ofChange permAllSpec)

/-- ITS FALSE NEIGHBOUR: 'it returns false'. Refute it at one input. -/
def permAllWrong : ChangeSpec := { name := "permAll", fn := fun _ => fun
  | [d] => { results := [.lit (.bool false)], args := [d] }
  | _ => none }
def PermAllWrongFalsely : Prop := permAllRow.holds Try.pinned (OpenSpec.ofChange permAllWrong)

/- THE SECOND FORM. 'bulk': how many values and letters a reading holds, each counted each time it is reached (what is shared counts as often as it is met; a slice's spare places count too). A statement '..UptoSaid' is the law's where the arguments, and the package variables that the reading takes, are together of bulk at most 1048576: NARROWER than '..Said'. Prove '..Said' where nothing that the law and all that it calls make is longer than what came in: it says more and counts as full. Else prove '..UptoSaid'. A law counts once. -/
mutual
def uptoBulk {H : Type} : DataW H → Nat
  | .lit (.string bytes) => bytes.length + 1
  | .lit _ => 1
  | .nil => 1
  | .ptr d => uptoBulk d + 1
  | .slice elems spare => uptoBulkAll elems + uptoBulkAll spare + 1
  | .agg parts => uptoBulkAll parts + 1
  | .iface _ d => uptoBulk d + 1
  | .map entries => uptoBulkEntries entries + 1
  | .held _ => 1
def uptoBulkAll {H : Type} : List (DataW H) → Nat
  | [] => 0
  | d :: r => uptoBulk d + uptoBulkAll r
def uptoBulkEntries {H : Type} : List (Lit × DataW H) → Nat
  | [] => 0
  | x :: r => uptoBulkEntry x + uptoBulkEntries r
def uptoBulkEntry {H : Type} : Lit × DataW H → Nat
  | (.string bytes, d) => bytes.length + uptoBulk d + 1
  | (_, d) => uptoBulk d + 1
 end
def uptoSmall : (H : Type) → List (DataW H) → Bool := fun _ ds => decide (uptoBulkAll ds ≤ 1048576)
def OpenSpec.upto (s : _root_.Go.ChangeSpec) : _root_.Go.OpenSpec := { _root_.Go.OpenSpec.ofChange s with cond := some uptoSmall }

/-- 'lariatlaw08.PermMuls', WHERE WHAT IT READS IS OF BULK AT MOST 1048576: true; the input reads as it did. -/
def permMulsUptoRow : OpenClaim := { program := "ytdjneckgckagdaa", sum := "21d7db5e889e050d5cbcd039b76e73677223f54d95db5811dd43184b502d9fed", func := "lariat/lariatlaw08.PermMuls", spec := "permMuls", apart := false, narrowed := true }
def PermMulsUptoSaid : Prop := permMulsUptoRow.holds Try.pinned (OpenSpec.upto permMulsSpec)

/-- 'lariatlaw08.PermTells', WHERE WHAT IT READS IS OF BULK AT MOST 1048576: true; the input reads as it did. -/
def permTellsUptoRow : OpenClaim := { program := "ytdjneckgckagdaa", sum := "21d7db5e889e050d5cbcd039b76e73677223f54d95db5811dd43184b502d9fed", func := "lariat/lariatlaw08.PermTells", spec := "permTells", apart := false, narrowed := true }
def PermTellsUptoSaid : Prop := permTellsUptoRow.holds Try.pinned (OpenSpec.upto permTellsSpec)

/-- 'lariatlaw08.PermGroup', WHERE WHAT IT READS IS OF BULK AT MOST 1048576: true; the input reads as it did. -/
def permGroupUptoRow : OpenClaim := { program := "ytdjneckgckagdaa", sum := "21d7db5e889e050d5cbcd039b76e73677223f54d95db5811dd43184b502d9fed", func := "lariat/lariatlaw08.PermGroup", spec := "permGroup", apart := false, narrowed := true }
def PermGroupUptoSaid : Prop := permGroupUptoRow.holds Try.pinned (OpenSpec.upto permGroupSpec)

/-- 'lariatlaw08.PermRanks', WHERE WHAT IT READS IS OF BULK AT MOST 1048576: true; the input reads as it did. -/
def permRanksUptoRow : OpenClaim := { program := "ytdjneckgckagdaa", sum := "21d7db5e889e050d5cbcd039b76e73677223f54d95db5811dd43184b502d9fed", func := "lariat/lariatlaw08.PermRanks", spec := "permRanks", apart := false, narrowed := true }
def PermRanksUptoSaid : Prop := permRanksUptoRow.holds Try.pinned (OpenSpec.upto permRanksSpec)

/-- 'lariatlaw08.PermAll', WHERE WHAT IT READS IS OF BULK AT MOST 1048576: true; the input reads as it did. -/
def permAllUptoRow : OpenClaim := { program := "ytdjneckgckagdaa", sum := "21d7db5e889e050d5cbcd039b76e73677223f54d95db5811dd43184b502d9fed", func := "lariat/lariatlaw08.PermAll", spec := "permAll", unfollowed := true, recurses := true, apart := false, narrowed := true }
def PermAllUptoSaid : Prop := permAllUptoRow.holds Try.pinned (OpenSpec.upto permAllSpec)

end Rows
end Go.Proofs.Ytdjneckgckagdaa
