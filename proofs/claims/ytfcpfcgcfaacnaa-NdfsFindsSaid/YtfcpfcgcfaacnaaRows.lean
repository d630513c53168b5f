/-
  No cell of these rows narrows 'for every input' (looked for: loops, veiled, ifaces, maps, wideKeys, modest, calm, conditions, laid).
  DERIVED. THE GIVEN ROWS OF THIS SEAT. 6 by the template 'for every input the law returns true; each argument reads behind the call as it read before'; 0 by the template 'total and deterministic' (their statements: YtfcpfcgcfaacnaaTotals.lean).
  GIVEN WITH THE SEED: the statements are not yours to turn. If you find one false, say at which input.
  Laid BY PROGRAM, IN A SANDBOX (cutbox-rows.mjs): the forced cells as the released guide's own fill.sh prints them over the translation 09a2dbe86e866cba… (all of the seat's roots in one cut). By AI agents, Wed Nov 11 2026. No macro, syntax, notation, axiom, sorry.
-/
import Derived.Test.YtfcpfcgcfaacnaaChecked
import GoSem.Claim
import GoSem.ClaimJoined
import GoSem.ClaimMapViews
import Derived.JoinedTies
import Derived.KernelRfl
namespace Go.Proofs.Ytfcpfcgcfaacnaa
/- THE CELL 'sum', in the pinned program and in every row, IS THE sha256 OF THE DUMP (.gsa) THAT YtfcpfcgcfaacnaaProg.lean LOADS. Nothing in Lean hashes anything: it is a label: what it is worth is what the hold of that sum in a sandbox is worth. -/
noncomputable def Try.pinned : Pinned := { name := "ytfcpfcgcfaacnaa", sum := "09a2dbe86e866cba3f6413e24da8a1d9cb42b96792640504cc27ec7607f4ca7b", checked := Try.checked }
namespace Rows
def none {H : Type} : Left H := { results := [], args := [] }

/-- 'lariatlaw38.NdfsFinds': WHATEVER THE INPUT: true; the input reads as it did. -/
def ndfsFindsSpec : ChangeSpec := { name := "ndfsFinds", fn := fun _ => fun
  | [d1, d2] => { results := [.lit (.bool true)], args := [d1, d2] }
  | _ => none }
def ndfsFindsRow : OpenClaim := { program := "ytfcpfcgcfaacnaa", sum := "09a2dbe86e866cba3f6413e24da8a1d9cb42b96792640504cc27ec7607f4ca7b", func := "lariat/lariatlaw38.NdfsFinds", spec := "ndfsFinds", unfollowed := true, recurses := true, plainKeys := false, apart := false }
def NdfsFindsSaid : Prop := ndfsFindsRow.holds Try.pinned (OpenSpec.ofChange ndfsFindsSpec)

/-- ITS FALSE NEIGHBOUR: 'it returns false'. Refute it at one input. -/
def ndfsFindsWrong : ChangeSpec := { name := "ndfsFinds", fn := fun _ => fun
  | [d1, d2] => { results := [.lit (.bool false)], args := [d1, d2] }
  | _ => none }
def NdfsFindsWrongFalsely : Prop := ndfsFindsRow.holds Try.pinned (OpenSpec.ofChange ndfsFindsWrong)

/-- 'lariatlaw38.NdfsTold': WHATEVER THE INPUT: true; the input reads as it did. -/
def ndfsToldSpec : ChangeSpec := { name := "ndfsTold", fn := fun _ => fun
  | [d1, d2] => { results := [.lit (.bool true)], args := [d1, d2] }
  | _ => none }
def ndfsToldRow : OpenClaim := { program := "ytfcpfcgcfaacnaa", sum := "09a2dbe86e866cba3f6413e24da8a1d9cb42b96792640504cc27ec7607f4ca7b", func := "lariat/lariatlaw38.NdfsTold", spec := "ndfsTold", unfollowed := true, recurses := true, plainKeys := false, apart := false }
def NdfsToldSaid : Prop := ndfsToldRow.holds Try.pinned (OpenSpec.ofChange ndfsToldSpec)

/-- ITS FALSE NEIGHBOUR: 'it returns false'. Refute it at one input. -/
def ndfsToldWrong : ChangeSpec := { name := "ndfsTold", fn := fun _ => fun
  | [d1, d2] => { results := [.lit (.bool false)], args := [d1, d2] }
  | _ => none }
def NdfsToldWrongFalsely : Prop := ndfsToldRow.holds Try.pinned (OpenSpec.ofChange ndfsToldWrong)

/-- 'lariatlaw38.NdfsHolds': WHATEVER THE INPUT: true; the input reads as it did. -/
def ndfsHoldsSpec : ChangeSpec := { name := "ndfsHolds", fn := fun _ => fun
  | [d] => { results := [.lit (.bool true)], args := [d] }
  | _ => none }
def ndfsHoldsRow : OpenClaim := { program := "ytfcpfcgcfaacnaa", sum := "09a2dbe86e866cba3f6413e24da8a1d9cb42b96792640504cc27ec7607f4ca7b", func := "lariat/lariatlaw38.NdfsHolds", spec := "ndfsHolds", unfollowed := true, recurses := true, plainKeys := false, apart := false }
def NdfsHoldsSaid : Prop := ndfsHoldsRow.holds Try.pinned (OpenSpec.ofChange ndfsHoldsSpec)

/-- ITS FALSE NEIGHBOUR: 'it returns false'. Refute it at one input. -/
def ndfsHoldsWrong : ChangeSpec := { name := "ndfsHolds", fn := fun _ => fun
  | [d] => { results := [.lit (.bool false)], args := [d] }
  | _ => none }
def NdfsHoldsWrongFalsely : Prop := ndfsHoldsRow.holds Try.pinned (OpenSpec.ofChange ndfsHoldsWrong)

/-- 'lariatlaw38.NdfsBudget': WHATEVER THE INPUT: true; the input reads as it did. -/
def ndfsBudgetSpec : ChangeSpec := { name := "ndfsBudget", fn := fun _ => fun
  | [d1, d2, d3] => { results := [.lit (.bool true)], args := [d1, d2, d3] }
  | _ => none }
def ndfsBudgetRow : OpenClaim := { program := "ytfcpfcgcfaacnaa", sum := "09a2dbe86e866cba3f6413e24da8a1d9cb42b96792640504cc27ec7607f4ca7b", func := "lariat/lariatlaw38.NdfsBudget", spec := "ndfsBudget", unfollowed := true, recurses := true, plainKeys := false, apart := false }
def NdfsBudgetSaid : Prop := ndfsBudgetRow.holds Try.pinned (OpenSpec.ofChange ndfsBudgetSpec)

/-- ITS FALSE NEIGHBOUR: 'it returns false'. Refute it at one input. -/
def ndfsBudgetWrong : ChangeSpec := { name := "ndfsBudget", fn := fun _ => fun
  | [d1, d2, d3] => { results := [.lit (.bool false)], args := [d1, d2, d3] }
  | _ => none }
def NdfsBudgetWrongFalsely : Prop := ndfsBudgetRow.holds Try.pinned (OpenSpec.ofChange ndfsBudgetWrong)

/-- 'lariatlaw38.NdfsUsed': WHATEVER THE INPUT: true; the input reads as it did. -/
def ndfsUsedSpec : ChangeSpec := { name := "ndfsUsed", fn := fun _ => fun
  | [d1, d2] => { results := [.lit (.bool true)], args := [d1, d2] }
  | _ => none }
def ndfsUsedRow : OpenClaim := { program := "ytfcpfcgcfaacnaa", sum := "09a2dbe86e866cba3f6413e24da8a1d9cb42b96792640504cc27ec7607f4ca7b", func := "lariat/lariatlaw38.NdfsUsed", spec := "ndfsUsed", unfollowed := true, recurses := true, plainKeys := false, apart := false }
def NdfsUsedSaid : Prop := ndfsUsedRow.holds Try.pinned (OpenSpec.ofChange ndfsUsedSpec)

/-- ITS FALSE NEIGHBOUR: 'it returns false'. Refute it at one input. -/
def ndfsUsedWrong : ChangeSpec := { name := "ndfsUsed", fn := fun _ => fun
  | [d1, d2] => { results := [.lit (.bool false)], args := [d1, d2] }
  | _ => none }
def NdfsUsedWrongFalsely : Prop := ndfsUsedRow.holds Try.pinned (OpenSpec.ofChange ndfsUsedWrong)

/-- 'lariatlaw38.NdfsRaw': WHATEVER THE INPUT: true; the input reads as it did. -/
def ndfsRawSpec : ChangeSpec := { name := "ndfsRaw", fn := fun _ => fun
  | [d1, d2, d3] => { results := [.lit (.bool true)], args := [d1, d2, d3] }
  | _ => none }
def ndfsRawRow : OpenClaim := { program := "ytfcpfcgcfaacnaa", sum := "09a2dbe86e866cba3f6413e24da8a1d9cb42b96792640504cc27ec7607f4ca7b", func := "lariat/lariatlaw38.NdfsRaw", spec := "ndfsRaw", unfollowed := true, recurses := true, plainKeys := false, apart := false }
def NdfsRawSaid : Prop := ndfsRawRow.holds Try.pinned (OpenSpec.ofChange ndfsRawSpec)

/-- ITS FALSE NEIGHBOUR: 'it returns false'. Refute it at one input. -/
def ndfsRawWrong : ChangeSpec := { name := "ndfsRaw", fn := fun _ => fun
  | [d1, d2, d3] => { results := [.lit (.bool false)], args := [d1, d2, d3] }
  | _ => none }
def NdfsRawWrongFalsely : Prop := ndfsRawRow.holds Try.pinned (OpenSpec.ofChange ndfsRawWrong)

/- THE SECOND FORM. 'bulk': how many values and letters a reading holds, each counted each time it is reached (what is shared counts as often as it is met; a slice's spare places count too). A statement '..UptoSaid' is the law's where the arguments, and the package variables that the reading takes, are together of bulk at most 1048576: NARROWER than '..Said'. Prove '..Said' where nothing that the law and all that it calls make is longer than what came in: it says more and counts as full. Else prove '..UptoSaid'. A law counts once. -/
mutual
def uptoBulk {H : Type} : DataW H → Nat
  | .lit (.string bytes) => bytes.length + 1
  | .lit _ => 1
  | .nil => 1
  | .ptr d => uptoBulk d + 1
  | .slice elems spare => uptoBulkAll elems + uptoBulkAll spare + 1
  | .agg parts => uptoBulkAll parts + 1
  | .iface _ d => uptoBulk d + 1
  | .map entries => uptoBulkEntries entries + 1
  | .held _ => 1
def uptoBulkAll {H : Type} : List (DataW H) → Nat
  | [] => 0
  | d :: r => uptoBulk d + uptoBulkAll r
def uptoBulkEntries {H : Type} : List (Lit × DataW H) → Nat
  | [] => 0
  | x :: r => uptoBulkEntry x + uptoBulkEntries r
def uptoBulkEntry {H : Type} : Lit × DataW H → Nat
  | (.string bytes, d) => bytes.length + uptoBulk d + 1
  | (_, d) => uptoBulk d + 1
 end
def uptoSmall : (H : Type) → List (DataW H) → Bool := fun _ ds => decide (uptoBulkAll ds ≤ 1048576)
def OpenSpec.upto (s : _root_.Go.ChangeSpec) : _root_.Go.OpenSpec := { _root_.Go.OpenSpec.ofChange s with cond := some uptoSmall }

/-- 'lariatlaw38.NdfsFinds', WHERE WHAT IT READS IS OF BULK AT MOST 1048576: true; the input reads as it did. -/
def ndfsFindsUptoRow : OpenClaim := { program := "ytfcpfcgcfaacnaa", sum := "09a2dbe86e866cba3f6413e24da8a1d9cb42b96792640504cc27ec7607f4ca7b", func := "lariat/lariatlaw38.NdfsFinds", spec := "ndfsFinds", unfollowed := true, recurses := true, plainKeys := false, apart := false, narrowed := true }
def NdfsFindsUptoSaid : Prop := ndfsFindsUptoRow.holds Try.pinned (OpenSpec.upto ndfsFindsSpec)

/-- 'lariatlaw38.NdfsTold', WHERE WHAT IT READS IS OF BULK AT MOST 1048576: true; the input reads as it did. -/
def ndfsToldUptoRow : OpenClaim := { program := "ytfcpfcgcfaacnaa", sum := "09a2dbe86e866cba3f6413e24da8a1d9cb42b96792640504cc27ec7607f4ca7b", func := "lariat/lariatlaw38.NdfsTold", spec := "ndfsTold", unfollowed := true, recurses := true, plainKeys := false, apart := false, narrowed := true }
def NdfsToldUptoSaid : Prop := ndfsToldUptoRow.holds Try.pinned (OpenSpec.upto ndfsToldSpec)

/-- 'lariatlaw38.NdfsHolds', WHERE WHAT IT READS IS OF BULK AT MOST 1048576: true; the input reads as it did. -/
def ndfsHoldsUptoRow : OpenClaim := { program := "ytfcpfcgcfaacnaa", sum := "09a2dbe86e866cba3f6413e24da8a1d9cb42b96792640504cc27ec7607f4ca7b", func := "lariat/lariatlaw38.NdfsHolds", spec := "ndfsHolds", unfollowed := true, recurses := true, plainKeys := false, apart := false, narrowed := true }
def NdfsHoldsUptoSaid : Prop := ndfsHoldsUptoRow.holds Try.pinned (OpenSpec.upto ndfsHoldsSpec)

/-- 'lariatlaw38.NdfsBudget', WHERE WHAT IT READS IS OF BULK AT MOST 1048576: true; the input reads as it did. -/
def ndfsBudgetUptoRow : OpenClaim := { program := "ytfcpfcgcfaacnaa", sum := "09a2dbe86e866cba3f6413e24da8a1d9cb42b96792640504cc27ec7607f4ca7b", func := "lariat/lariatlaw38.NdfsBudget", spec := "ndfsBudget", unfollowed := true, recurses := true, plainKeys := false, apart := false, narrowed := true }
def NdfsBudgetUptoSaid : Prop := ndfsBudgetUptoRow.holds Try.pinned (OpenSpec.upto ndfsBudgetSpec)

/-- 'lariatlaw38.NdfsUsed', WHERE WHAT IT READS IS OF BULK AT MOST 1048576: true; the input reads as it did. -/
def ndfsUsedUptoRow : OpenClaim := { program := "ytfcpfcgcfaacnaa", sum := "09a2dbe86e866cba3f6413e24da8a1d9cb42b96792640504cc27ec7607f4ca7b", func := "lariat/lariatlaw38.NdfsUsed", spec := "ndfsUsed", unfollowed := true, recurses := true, plainKeys := false, apart := false, narrowed := true }
def NdfsUsedUptoSaid : Prop := ndfsUsedUptoRow.holds Try.pinned (OpenSpec.upto ndfsUsedSpec)

/-- 'lariatlaw38.NdfsRaw', WHERE WHAT IT READS IS OF BULK AT MOST 1048576: true; the input reads as it did. -/
def ndfsRawUptoRow : OpenClaim := { program := "ytfcpfcgcfaacnaa", sum := "09a2dbe86e866cba3f6413e24da8a1d9cb42b96792640504cc27ec7607f4ca7b", func := "lariat/lariatlaw38.NdfsRaw", spec := "ndfsRaw", unfollowed := true, recurses := true, plainKeys := false, apart := false, narrowed := true }
def NdfsRawUptoSaid : Prop := ndfsRawUptoRow.holds Try.pinned (OpenSpec.upto ndfsRawSpec)

end Rows
end Go.Proofs.Ytfcpfcgcfaacnaa
