/-
  No cell of these rows narrows 'for every input' (looked for: loops, veiled, ifaces, maps, wideKeys, modest, calm, conditions, laid).
  DERIVED. THE GIVEN ROWS OF THIS SEAT. 7 by the template 'for every input the law returns true; each argument reads behind the call as it read before'; 0 by the template 'total and deterministic' (their statements: YtcbdldmejknfnaaTotals.lean).
  GIVEN WITH THE SEED: the statements are not yours to turn. If you find one false, say at which input.
  Laid BY PROGRAM, IN A SANDBOX (cutbox-rows.mjs): the forced cells as the released guide's own fill.sh prints them over the translation 39a51b6f9bea2024… (all of the seat's roots in one cut). By AI agents, Wed Nov 11 2026. No macro, syntax, notation, axiom, sorry.
-/
import Derived.Test.YtcbdldmejknfnaaChecked
import GoSem.Claim
import GoSem.ClaimJoined
import GoSem.ClaimMapViews
import Derived.JoinedTies
import Derived.KernelRfl
namespace Go.Proofs.Ytcbdldmejknfnaa
/- THE CELL 'sum', in the pinned program and in every row, IS THE sha256 OF THE DUMP (.gsa) THAT YtcbdldmejknfnaaProg.lean LOADS. Nothing in Lean hashes anything: it is a label: what it is worth is what the hold of that sum in a sandbox is worth. -/
noncomputable def Try.pinned : Pinned := { name := "ytcbdldmejknfnaa", sum := "39a51b6f9bea202441458dbba5a97478d710ec3861005b7961023d2dfe32991b", checked := Try.checked }
namespace Rows
def none {H : Type} : Left H := { results := [], args := [] }

/-- 'lariatlaw01.NumMods': WHATEVER THE INPUT: true; the input reads as it did. -/
def numModsSpec : ChangeSpec := { name := "numMods", fn := fun _ => fun
  | [d1, d2] => { results := [.lit (.bool true)], args := [d1, d2] }
  | _ => none }
def numModsRow : OpenClaim := { program := "ytcbdldmejknfnaa", sum := "39a51b6f9bea202441458dbba5a97478d710ec3861005b7961023d2dfe32991b", func := "lariat/lariatlaw01.NumMods", spec := "numMods", apart := false }
def NumModsSaid : Prop := numModsRow.holds Try.pinned (OpenSpec.ofChange numModsSpec)

/-- ITS FALSE NEIGHBOUR: 'it returns false'. Refute it at one input. -/
def numModsWrong : ChangeSpec := { name := "numMods", fn := fun _ => fun
  | [d1, d2] => { results := [.lit (.bool false)], args := [d1, d2] }
  | _ => none }
def NumModsWrongFalsely : Prop := numModsRow.holds Try.pinned (OpenSpec.ofChange numModsWrong)

/-- 'lariatlaw01.NumRanks': WHATEVER THE INPUT: true; the input reads as it did. -/
def numRanksSpec : ChangeSpec := { name := "numRanks", fn := fun _ => fun
  | [d1, d2] => { results := [.lit (.bool true)], args := [d1, d2] }
  | _ => none }
def numRanksRow : OpenClaim := { program := "ytcbdldmejknfnaa", sum := "39a51b6f9bea202441458dbba5a97478d710ec3861005b7961023d2dfe32991b", func := "lariat/lariatlaw01.NumRanks", spec := "numRanks", apart := false }
def NumRanksSaid : Prop := numRanksRow.holds Try.pinned (OpenSpec.ofChange numRanksSpec)

/-- ITS FALSE NEIGHBOUR: 'it returns false'. Refute it at one input. -/
def numRanksWrong : ChangeSpec := { name := "numRanks", fn := fun _ => fun
  | [d1, d2] => { results := [.lit (.bool false)], args := [d1, d2] }
  | _ => none }
def NumRanksWrongFalsely : Prop := numRanksRow.holds Try.pinned (OpenSpec.ofChange numRanksWrong)

/-- 'lariatlaw01.NumUnranks': WHATEVER THE INPUT: true; the input reads as it did. -/
def numUnranksSpec : ChangeSpec := { name := "numUnranks", fn := fun _ => fun
  | [d1, d2] => { results := [.lit (.bool true)], args := [d1, d2] }
  | _ => none }
def numUnranksRow : OpenClaim := { program := "ytcbdldmejknfnaa", sum := "39a51b6f9bea202441458dbba5a97478d710ec3861005b7961023d2dfe32991b", func := "lariat/lariatlaw01.NumUnranks", spec := "numUnranks", apart := false }
def NumUnranksSaid : Prop := numUnranksRow.holds Try.pinned (OpenSpec.ofChange numUnranksSpec)

/-- ITS FALSE NEIGHBOUR: 'it returns false'. Refute it at one input. -/
def numUnranksWrong : ChangeSpec := { name := "numUnranks", fn := fun _ => fun
  | [d1, d2] => { results := [.lit (.bool false)], args := [d1, d2] }
  | _ => none }
def NumUnranksWrongFalsely : Prop := numUnranksRow.holds Try.pinned (OpenSpec.ofChange numUnranksWrong)

/-- 'lariatlaw01.NumBack': WHATEVER THE INPUT: true; the input reads as it did. -/
def numBackSpec : ChangeSpec := { name := "numBack", fn := fun _ => fun
  | [d1, d2, d3] => { results := [.lit (.bool true)], args := [d1, d2, d3] }
  | _ => none }
def numBackRow : OpenClaim := { program := "ytcbdldmejknfnaa", sum := "39a51b6f9bea202441458dbba5a97478d710ec3861005b7961023d2dfe32991b", func := "lariat/lariatlaw01.NumBack", spec := "numBack", apart := false }
def NumBackSaid : Prop := numBackRow.holds Try.pinned (OpenSpec.ofChange numBackSpec)

/-- ITS FALSE NEIGHBOUR: 'it returns false'. Refute it at one input. -/
def numBackWrong : ChangeSpec := { name := "numBack", fn := fun _ => fun
  | [d1, d2, d3] => { results := [.lit (.bool false)], args := [d1, d2, d3] }
  | _ => none }
def NumBackWrongFalsely : Prop := numBackRow.holds Try.pinned (OpenSpec.ofChange numBackWrong)

/-- 'lariatlaw01.NumOrder': WHATEVER THE INPUT: true; the input reads as it did. -/
def numOrderSpec : ChangeSpec := { name := "numOrder", fn := fun _ => fun
  | [d1, d2, d3] => { results := [.lit (.bool true)], args := [d1, d2, d3] }
  | _ => none }
def numOrderRow : OpenClaim := { program := "ytcbdldmejknfnaa", sum := "39a51b6f9bea202441458dbba5a97478d710ec3861005b7961023d2dfe32991b", func := "lariat/lariatlaw01.NumOrder", spec := "numOrder", apart := false }
def NumOrderSaid : Prop := numOrderRow.holds Try.pinned (OpenSpec.ofChange numOrderSpec)

/-- ITS FALSE NEIGHBOUR: 'it returns false'. Refute it at one input. -/
def numOrderWrong : ChangeSpec := { name := "numOrder", fn := fun _ => fun
  | [d1, d2, d3] => { results := [.lit (.bool false)], args := [d1, d2, d3] }
  | _ => none }
def NumOrderWrongFalsely : Prop := numOrderRow.holds Try.pinned (OpenSpec.ofChange numOrderWrong)

/-- 'lariatlaw01.NumBounds': WHATEVER THE INPUT: true; the input reads as it did. -/
def numBoundsSpec : ChangeSpec := { name := "numBounds", fn := fun _ => fun
  | [d1, d2, d3] => { results := [.lit (.bool true)], args := [d1, d2, d3] }
  | _ => none }
def numBoundsRow : OpenClaim := { program := "ytcbdldmejknfnaa", sum := "39a51b6f9bea202441458dbba5a97478d710ec3861005b7961023d2dfe32991b", func := "lariat/lariatlaw01.NumBounds", spec := "numBounds", apart := false }
def NumBoundsSaid : Prop := numBoundsRow.holds Try.pinned (OpenSpec.ofChange numBoundsSpec)

/-- ITS FALSE NEIGHBOUR: 'it returns false'. Refute it at one input. -/
def numBoundsWrong : ChangeSpec := { name := "numBounds", fn := fun _ => fun
  | [d1, d2, d3] => { results := [.lit (.bool false)], args := [d1, d2, d3] }
  | _ => none }
def NumBoundsWrongFalsely : Prop := numBoundsRow.holds Try.pinned (OpenSpec.ofChange numBoundsWrong)

/-- 'lariatlaw01.NumSums': WHATEVER THE INPUT: true; the input reads as it did. -/
def numSumsSpec : ChangeSpec := { name := "numSums", fn := fun _ => fun
  | [d1, d2] => { results := [.lit (.bool true)], args := [d1, d2] }
  | _ => none }
def numSumsRow : OpenClaim := { program := "ytcbdldmejknfnaa", sum := "39a51b6f9bea202441458dbba5a97478d710ec3861005b7961023d2dfe32991b", func := "lariat/lariatlaw01.NumSums", spec := "numSums", unfollowed := true, recurses := true, apart := false }
def NumSumsSaid : Prop := numSumsRow.holds Try.pinned (OpenSpec.ofChange numSumsSpec)

/-- ITS FALSE NEIGHBOUR: 'it returns false'. Refute it at one input. -/
def numSumsWrong : ChangeSpec := { name := "numSums", fn := fun _ => fun
  | [d1, d2] => { results := [.lit (.bool false)], args := [d1, d2] }
  | _ => none }
def NumSumsWrongFalsely : Prop := numSumsRow.holds Try.pinned (OpenSpec.ofChange numSumsWrong)

/- THE SECOND FORM. 'bulk': how many values and letters a reading holds, each counted each time it is reached (what is shared counts as often as it is met; a slice's spare places count too). A statement '..UptoSaid' is the law's where the arguments, and the package variables that the reading takes, are together of bulk at most 1048576: NARROWER than '..Said'. Prove '..Said' where nothing that the law and all that it calls make is longer than what came in: it says more and counts as full. Else prove '..UptoSaid'. A law counts once. -/
mutual
def uptoBulk {H : Type} : DataW H → Nat
  | .lit (.string bytes) => bytes.length + 1
  | .lit _ => 1
  | .nil => 1
  | .ptr d => uptoBulk d + 1
  | .slice elems spare => uptoBulkAll elems + uptoBulkAll spare + 1
  | .agg parts => uptoBulkAll parts + 1
  | .iface _ d => uptoBulk d + 1
  | .map entries => uptoBulkEntries entries + 1
  | .held _ => 1
def uptoBulkAll {H : Type} : List (DataW H) → Nat
  | [] => 0
  | d :: r => uptoBulk d + uptoBulkAll r
def uptoBulkEntries {H : Type} : List (Lit × DataW H) → Nat
  | [] => 0
  | x :: r => uptoBulkEntry x + uptoBulkEntries r
def uptoBulkEntry {H : Type} : Lit × DataW H → Nat
  | (.string bytes, d) => bytes.length + uptoBulk d + 1
  | (_, d) => uptoBulk d + 1
 end
def uptoSmall : (H : Type) → List (DataW H) → Bool := fun _ ds => decide (uptoBulkAll ds ≤ 1048576)
def OpenSpec.upto (s : _root_.Go.ChangeSpec) : _root_.Go.OpenSpec := { _root_.Go.OpenSpec.ofChange s with cond := some uptoSmall }

/-- 'lariatlaw01.NumMods', WHERE WHAT IT READS IS OF BULK AT MOST 1048576: true; the input reads as it did. -/
def numModsUptoRow : OpenClaim := { program := "ytcbdldmejknfnaa", sum := "39a51b6f9bea202441458dbba5a97478d710ec3861005b7961023d2dfe32991b", func := "lariat/lariatlaw01.NumMods", spec := "numMods", apart := false, narrowed := true }
def NumModsUptoSaid : Prop := numModsUptoRow.holds Try.pinned (OpenSpec.upto numModsSpec)

/-- 'lariatlaw01.NumRanks', WHERE WHAT IT READS IS OF BULK AT MOST 1048576: true; the input reads as it did. -/
def numRanksUptoRow : OpenClaim := { program := "ytcbdldmejknfnaa", sum := "39a51b6f9bea202441458dbba5a97478d710ec3861005b7961023d2dfe32991b", func := "lariat/lariatlaw01.NumRanks", spec := "numRanks", apart := false, narrowed := true }
def NumRanksUptoSaid : Prop := numRanksUptoRow.holds Try.pinned (OpenSpec.upto numRanksSpec)

/-- 'lariatlaw01.NumUnranks', WHERE WHAT IT READS IS OF BULK AT MOST 1048576: true; the input reads as it did. -/
def numUnranksUptoRow : OpenClaim := { program := "ytcbdldmejknfnaa", sum := "39a51b6f9bea202441458dbba5a97478d710ec3861005b7961023d2dfe32991b", func := "lariat/lariatlaw01.NumUnranks", spec := "numUnranks", apart := false, narrowed := true }
def NumUnranksUptoSaid : Prop := numUnranksUptoRow.holds Try.pinned (OpenSpec.upto numUnranksSpec)

/-- 'lariatlaw01.NumBack', WHERE WHAT IT READS IS OF BULK AT MOST 1048576: true; the input reads as it did. -/
def numBackUptoRow : OpenClaim := { program := "ytcbdldmejknfnaa", sum := "39a51b6f9bea202441458dbba5a97478d710ec3861005b7961023d2dfe32991b", func := "lariat/lariatlaw01.NumBack", spec := "numBack", apart := false, narrowed := true }
def NumBackUptoSaid : Prop := numBackUptoRow.holds Try.pinned (OpenSpec.upto numBackSpec)

/-- 'lariatlaw01.NumOrder', WHERE WHAT IT READS IS OF BULK AT MOST 1048576: true; the input reads as it did. -/
def numOrderUptoRow : OpenClaim := { program := "ytcbdldmejknfnaa", sum := "39a51b6f9bea202441458dbba5a97478d710ec3861005b7961023d2dfe32991b", func := "lariat/lariatlaw01.NumOrder", spec := "numOrder", apart := false, narrowed := true }
def NumOrderUptoSaid : Prop := numOrderUptoRow.holds Try.pinned (OpenSpec.upto numOrderSpec)

/-- 'lariatlaw01.NumBounds', WHERE WHAT IT READS IS OF BULK AT MOST 1048576: true; the input reads as it did. -/
def numBoundsUptoRow : OpenClaim := { program := "ytcbdldmejknfnaa", sum := "39a51b6f9bea202441458dbba5a97478d710ec3861005b7961023d2dfe32991b", func := "lariat/lariatlaw01.NumBounds", spec := "numBounds", apart := false, narrowed := true }
def NumBoundsUptoSaid : Prop := numBoundsUptoRow.holds Try.pinned (OpenSpec.upto numBoundsSpec)

/-- 'lariatlaw01.NumSums', WHERE WHAT IT READS IS OF BULK AT MOST 1048576: true; the input reads as it did. -/
def numSumsUptoRow : OpenClaim := { program := "ytcbdldmejknfnaa", sum := "39a51b6f9bea202441458dbba5a97478d710ec3861005b7961023d2dfe32991b", func := "lariat/lariatlaw01.NumSums", spec := "numSums", unfollowed := true, recurses := true, apart := false, narrowed := true }
def NumSumsUptoSaid : Prop := numSumsUptoRow.holds Try.pinned (OpenSpec.upto numSumsSpec)

end Rows
end Go.Proofs.Ytcbdldmejknfnaa
