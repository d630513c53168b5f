/-
  No cell of these rows narrows 'for every input' (looked for: loops, veiled, ifaces, maps, wideKeys, modest, calm, conditions, laid).
  DERIVED. THE GIVEN ROWS OF THIS SEAT. 5 by the template 'for every input the law returns true; each argument reads behind the call as it read before'; 0 by the template 'total and deterministic' (their statements: YtnllgigolfakpaaTotals.lean).
  GIVEN WITH THE SEED: the statements are not yours to turn. If you find one false, say at which input.
  Laid BY PROGRAM, IN A SANDBOX (cutbox-rows.mjs): the forced cells as the released guide's own fill.sh prints them over the translation e671c8d41653c1dc… (all of the seat's roots in one cut). By AI agents, Wed Nov 11 2026. No macro, syntax, notation, axiom, sorry.
-/
import Derived.Test.YtnllgigolfakpaaChecked
import GoSem.Claim
import GoSem.ClaimJoined
import GoSem.ClaimMapViews
import Derived.JoinedTies
import Derived.KernelRfl
namespace Go.Proofs.Ytnllgigolfakpaa
/- THE CELL 'sum', in the pinned program and in every row, IS THE sha256 OF THE DUMP (.gsa) THAT YtnllgigolfakpaaProg.lean LOADS. Nothing in Lean hashes anything: it is a label: what it is worth is what the hold of that sum in a sandbox is worth. -/
noncomputable def Try.pinned : Pinned := { name := "ytnllgigolfakpaa", sum := "e671c8d41653c1dcf2b91f91a8d50204ef40bfe24b416da1bc3cb3a779a9d1ed", checked := Try.checked }
namespace Rows
def none {H : Type} : Left H := { results := [], args := [] }

/-- 'lariatlaw32.SimDirect': WHATEVER THE INPUT: true; the input reads as it did. -/
def simDirectSpec : ChangeSpec := { name := "simDirect", fn := fun _ => fun
  | [d] => { results := [.lit (.bool true)], args := [d] }
  | _ => none }
def simDirectRow : OpenClaim := { program := "ytnllgigolfakpaa", sum := "e671c8d41653c1dcf2b91f91a8d50204ef40bfe24b416da1bc3cb3a779a9d1ed", func := "lariat/lariatlaw32.SimDirect", spec := "simDirect", unfollowed := true, recurses := true, apart := false }
def SimDirectSaid : Prop := simDirectRow.holds Try.pinned (OpenSpec.ofChange simDirectSpec)

/-- ITS FALSE NEIGHBOUR: 'it returns false'. Refute it at one input. -/
def simDirectWrong : ChangeSpec := { name := "simDirect", fn := fun _ => fun
  | [d] => { results := [.lit (.bool false)], args := [d] }
  | _ => none }
def SimDirectWrongFalsely : Prop := simDirectRow.holds Try.pinned (OpenSpec.ofChange simDirectWrong)

/-- 'lariatlaw32.SimIs': WHATEVER THE INPUT: true; the input reads as it did. -/
def simIsSpec : ChangeSpec := { name := "simIs", fn := fun _ => fun
  | [d1, d2] => { results := [.lit (.bool true)], args := [d1, d2] }
  | _ => none }
def simIsRow : OpenClaim := { program := "ytnllgigolfakpaa", sum := "e671c8d41653c1dcf2b91f91a8d50204ef40bfe24b416da1bc3cb3a779a9d1ed", func := "lariat/lariatlaw32.SimIs", spec := "simIs", unfollowed := true, recurses := true, apart := false }
def SimIsSaid : Prop := simIsRow.holds Try.pinned (OpenSpec.ofChange simIsSpec)

/-- ITS FALSE NEIGHBOUR: 'it returns false'. Refute it at one input. -/
def simIsWrong : ChangeSpec := { name := "simIs", fn := fun _ => fun
  | [d1, d2] => { results := [.lit (.bool false)], args := [d1, d2] }
  | _ => none }
def SimIsWrongFalsely : Prop := simIsRow.holds Try.pinned (OpenSpec.ofChange simIsWrong)

/-- 'lariatlaw32.SimOrder': WHATEVER THE INPUT: true; the input reads as it did. -/
def simOrderSpec : ChangeSpec := { name := "simOrder", fn := fun _ => fun
  | [d] => { results := [.lit (.bool true)], args := [d] }
  | _ => none }
def simOrderRow : OpenClaim := { program := "ytnllgigolfakpaa", sum := "e671c8d41653c1dcf2b91f91a8d50204ef40bfe24b416da1bc3cb3a779a9d1ed", func := "lariat/lariatlaw32.SimOrder", spec := "simOrder", unfollowed := true, recurses := true, apart := false }
def SimOrderSaid : Prop := simOrderRow.holds Try.pinned (OpenSpec.ofChange simOrderSpec)

/-- ITS FALSE NEIGHBOUR: 'it returns false'. Refute it at one input. -/
def simOrderWrong : ChangeSpec := { name := "simOrder", fn := fun _ => fun
  | [d] => { results := [.lit (.bool false)], args := [d] }
  | _ => none }
def SimOrderWrongFalsely : Prop := simOrderRow.holds Try.pinned (OpenSpec.ofChange simOrderWrong)

/-- 'lariatlaw32.SimWords': WHATEVER THE INPUT: true; the input reads as it did. -/
def simWordsSpec : ChangeSpec := { name := "simWords", fn := fun _ => fun
  | [d1, d2] => { results := [.lit (.bool true)], args := [d1, d2] }
  | _ => none }
def simWordsRow : OpenClaim := { program := "ytnllgigolfakpaa", sum := "e671c8d41653c1dcf2b91f91a8d50204ef40bfe24b416da1bc3cb3a779a9d1ed", func := "lariat/lariatlaw32.SimWords", spec := "simWords", unfollowed := true, recurses := true, apart := false }
def SimWordsSaid : Prop := simWordsRow.holds Try.pinned (OpenSpec.ofChange simWordsSpec)

/-- ITS FALSE NEIGHBOUR: 'it returns false'. Refute it at one input. -/
def simWordsWrong : ChangeSpec := { name := "simWords", fn := fun _ => fun
  | [d1, d2] => { results := [.lit (.bool false)], args := [d1, d2] }
  | _ => none }
def SimWordsWrongFalsely : Prop := simWordsRow.holds Try.pinned (OpenSpec.ofChange simWordsWrong)

/-- 'lariatlaw32.SimEmpty': WHATEVER THE INPUT: true; the input reads as it did. -/
def simEmptySpec : ChangeSpec := { name := "simEmpty", fn := fun _ => fun
  | [d1, d2] => { results := [.lit (.bool true)], args := [d1, d2] }
  | _ => none }
def simEmptyRow : OpenClaim := { program := "ytnllgigolfakpaa", sum := "e671c8d41653c1dcf2b91f91a8d50204ef40bfe24b416da1bc3cb3a779a9d1ed", func := "lariat/lariatlaw32.SimEmpty", spec := "simEmpty", unfollowed := true, recurses := true, apart := false }
def SimEmptySaid : Prop := simEmptyRow.holds Try.pinned (OpenSpec.ofChange simEmptySpec)

/-- ITS FALSE NEIGHBOUR: 'it returns false'. Refute it at one input. -/
def simEmptyWrong : ChangeSpec := { name := "simEmpty", fn := fun _ => fun
  | [d1, d2] => { results := [.lit (.bool false)], args := [d1, d2] }
  | _ => none }
def SimEmptyWrongFalsely : Prop := simEmptyRow.holds Try.pinned (OpenSpec.ofChange simEmptyWrong)

/- THE SECOND FORM. 'bulk': how many values and letters a reading holds, each counted each time it is reached (what is shared counts as often as it is met; a slice's spare places count too). A statement '..UptoSaid' is the law's where the arguments, and the package variables that the reading takes, are together of bulk at most 1048576: NARROWER than '..Said'. Prove '..Said' where nothing that the law and all that it calls make is longer than what came in: it says more and counts as full. Else prove '..UptoSaid'. A law counts once. -/
mutual
def uptoBulk {H : Type} : DataW H → Nat
  | .lit (.string bytes) => bytes.length + 1
  | .lit _ => 1
  | .nil => 1
  | .ptr d => uptoBulk d + 1
  | .slice elems spare => uptoBulkAll elems + uptoBulkAll spare + 1
  | .agg parts => uptoBulkAll parts + 1
  | .iface _ d => uptoBulk d + 1
  | .map entries => uptoBulkEntries entries + 1
  | .held _ => 1
def uptoBulkAll {H : Type} : List (DataW H) → Nat
  | [] => 0
  | d :: r => uptoBulk d + uptoBulkAll r
def uptoBulkEntries {H : Type} : List (Lit × DataW H) → Nat
  | [] => 0
  | x :: r => uptoBulkEntry x + uptoBulkEntries r
def uptoBulkEntry {H : Type} : Lit × DataW H → Nat
  | (.string bytes, d) => bytes.length + uptoBulk d + 1
  | (_, d) => uptoBulk d + 1
 end
def uptoSmall : (H : Type) → List (DataW H) → Bool := fun _ ds => decide (uptoBulkAll ds ≤ 1048576)
def OpenSpec.upto (s : _root_.Go.ChangeSpec) : _root_.Go.OpenSpec := { _root_.Go.OpenSpec.ofChange s with cond := some uptoSmall }

/-- 'lariatlaw32.SimDirect', WHERE WHAT IT READS IS OF BULK AT MOST 1048576: true; the input reads as it did. -/
def simDirectUptoRow : OpenClaim := { program := "ytnllgigolfakpaa", sum := "e671c8d41653c1dcf2b91f91a8d50204ef40bfe24b416da1bc3cb3a779a9d1ed", func := "lariat/lariatlaw32.SimDirect", spec := "simDirect", unfollowed := true, recurses := true, apart := false, narrowed := true }
def SimDirectUptoSaid : Prop := simDirectUptoRow.holds Try.pinned (OpenSpec.upto simDirectSpec)

/-- 'lariatlaw32.SimIs', WHERE WHAT IT READS IS OF BULK AT MOST 1048576: true; the input reads as it did. -/
def simIsUptoRow : OpenClaim := { program := "ytnllgigolfakpaa", sum := "e671c8d41653c1dcf2b91f91a8d50204ef40bfe24b416da1bc3cb3a779a9d1ed", func := "lariat/lariatlaw32.SimIs", spec := "simIs", unfollowed := true, recurses := true, apart := false, narrowed := true }
def SimIsUptoSaid : Prop := simIsUptoRow.holds Try.pinned (OpenSpec.upto simIsSpec)

/-- 'lariatlaw32.SimOrder', WHERE WHAT IT READS IS OF BULK AT MOST 1048576: true; the input reads as it did. -/
def simOrderUptoRow : OpenClaim := { program := "ytnllgigolfakpaa", sum := "e671c8d41653c1dcf2b91f91a8d50204ef40bfe24b416da1bc3cb3a779a9d1ed", func := "lariat/lariatlaw32.SimOrder", spec := "simOrder", unfollowed := true, recurses := true, apart := false, narrowed := true }
def SimOrderUptoSaid : Prop := simOrderUptoRow.holds Try.pinned (OpenSpec.upto simOrderSpec)

/-- 'lariatlaw32.SimWords', WHERE WHAT IT READS IS OF BULK AT MOST 1048576: true; the input reads as it did. -/
def simWordsUptoRow : OpenClaim := { program := "ytnllgigolfakpaa", sum := "e671c8d41653c1dcf2b91f91a8d50204ef40bfe24b416da1bc3cb3a779a9d1ed", func := "lariat/lariatlaw32.SimWords", spec := "simWords", unfollowed := true, recurses := true, apart := false, narrowed := true }
def SimWordsUptoSaid : Prop := simWordsUptoRow.holds Try.pinned (OpenSpec.upto simWordsSpec)

/-- 'lariatlaw32.SimEmpty', WHERE WHAT IT READS IS OF BULK AT MOST 1048576: true; the input reads as it did. -/
def simEmptyUptoRow : OpenClaim := { program := "ytnllgigolfakpaa", sum := "e671c8d41653c1dcf2b91f91a8d50204ef40bfe24b416da1bc3cb3a779a9d1ed", func := "lariat/lariatlaw32.SimEmpty", spec := "simEmpty", unfollowed := true, recurses := true, apart := false, narrowed := true }
def SimEmptyUptoSaid : Prop := simEmptyUptoRow.holds Try.pinned (OpenSpec.upto simEmptySpec)

end Rows
end Go.Proofs.Ytnllgigolfakpaa
