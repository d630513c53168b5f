/-
  No cell of these rows narrows 'for every input' (looked for: loops, veiled, ifaces, maps, wideKeys, modest, calm, conditions, laid).
  DERIVED. THE GIVEN ROWS OF THIS SEAT. 5 by the template 'for every input the law returns true; each argument reads behind the call as it read before'; 0 by the template 'total and deterministic' (their statements: YtefplklkhcpchaaTotals.lean).
  GIVEN WITH THE SEED: the statements are not yours to turn. If you find one false, say at which input.
  Laid BY PROGRAM, IN A SANDBOX (cutbox-rows.mjs): the forced cells as the released guide's own fill.sh prints them over the translation 93043181f519b34b… (all of the seat's roots in one cut). By AI agents, Wed Nov 11 2026. No macro, syntax, notation, axiom, sorry.
-/
import Derived.Test.YtefplklkhcpchaaChecked
import GoSem.Claim
import GoSem.ClaimJoined
import GoSem.ClaimMapViews
import Derived.JoinedTies
import Derived.KernelRfl
namespace Go.Proofs.Ytefplklkhcpchaa
/- THE CELL 'sum', in the pinned program and in every row, IS THE sha256 OF THE DUMP (.gsa) THAT YtefplklkhcpchaaProg.lean LOADS. Nothing in Lean hashes anything: it is a label: what it is worth is what the hold of that sum in a sandbox is worth. -/
noncomputable def Try.pinned : Pinned := { name := "ytefplklkhcpchaa", sum := "93043181f519b34b4cd6a36e3727d58a6dc39d7ad718e5021f48067608b0ee60", checked := Try.checked }
namespace Rows
def none {H : Type} : Left H := { results := [], args := [] }

/-- 'lariatlaw31.DegenOne': WHATEVER THE INPUT: true; the input reads as it did. -/
def degenOneSpec : ChangeSpec := { name := "degenOne", fn := fun _ => fun
  | [d] => { results := [.lit (.bool true)], args := [d] }
  | _ => none }
def degenOneRow : OpenClaim := { program := "ytefplklkhcpchaa", sum := "93043181f519b34b4cd6a36e3727d58a6dc39d7ad718e5021f48067608b0ee60", func := "lariat/lariatlaw31.DegenOne", spec := "degenOne", unfollowed := true, recurses := true, plainKeys := false, apart := false }
def DegenOneSaid : Prop := degenOneRow.holds Try.pinned (OpenSpec.ofChange degenOneSpec)

/-- ITS FALSE NEIGHBOUR: 'it returns false'. Refute it at one input. -/
def degenOneWrong : ChangeSpec := { name := "degenOne", fn := fun _ => fun
  | [d] => { results := [.lit (.bool false)], args := [d] }
  | _ => none }
def DegenOneWrongFalsely : Prop := degenOneRow.holds Try.pinned (OpenSpec.ofChange degenOneWrong)

/-- 'lariatlaw31.DegenWords': WHATEVER THE INPUT: true; the input reads as it did. -/
def degenWordsSpec : ChangeSpec := { name := "degenWords", fn := fun _ => fun
  | [d1, d2] => { results := [.lit (.bool true)], args := [d1, d2] }
  | _ => none }
def degenWordsRow : OpenClaim := { program := "ytefplklkhcpchaa", sum := "93043181f519b34b4cd6a36e3727d58a6dc39d7ad718e5021f48067608b0ee60", func := "lariat/lariatlaw31.DegenWords", spec := "degenWords", unfollowed := true, recurses := true, plainKeys := false, apart := false }
def DegenWordsSaid : Prop := degenWordsRow.holds Try.pinned (OpenSpec.ofChange degenWordsSpec)

/-- ITS FALSE NEIGHBOUR: 'it returns false'. Refute it at one input. -/
def degenWordsWrong : ChangeSpec := { name := "degenWords", fn := fun _ => fun
  | [d1, d2] => { results := [.lit (.bool false)], args := [d1, d2] }
  | _ => none }
def DegenWordsWrongFalsely : Prop := degenWordsRow.holds Try.pinned (OpenSpec.ofChange degenWordsWrong)

/-- 'lariatlaw31.DegenSmall': WHATEVER THE INPUT: true; the input reads as it did. -/
def degenSmallSpec : ChangeSpec := { name := "degenSmall", fn := fun _ => fun
  | [d] => { results := [.lit (.bool true)], args := [d] }
  | _ => none }
def degenSmallRow : OpenClaim := { program := "ytefplklkhcpchaa", sum := "93043181f519b34b4cd6a36e3727d58a6dc39d7ad718e5021f48067608b0ee60", func := "lariat/lariatlaw31.DegenSmall", spec := "degenSmall", unfollowed := true, recurses := true, plainKeys := false, apart := false }
def DegenSmallSaid : Prop := degenSmallRow.holds Try.pinned (OpenSpec.ofChange degenSmallSpec)

/-- ITS FALSE NEIGHBOUR: 'it returns false'. Refute it at one input. -/
def degenSmallWrong : ChangeSpec := { name := "degenSmall", fn := fun _ => fun
  | [d] => { results := [.lit (.bool false)], args := [d] }
  | _ => none }
def DegenSmallWrongFalsely : Prop := degenSmallRow.holds Try.pinned (OpenSpec.ofChange degenSmallWrong)

/-- 'lariatlaw31.DegenAgain': WHATEVER THE INPUT: true; the input reads as it did. -/
def degenAgainSpec : ChangeSpec := { name := "degenAgain", fn := fun _ => fun
  | [d] => { results := [.lit (.bool true)], args := [d] }
  | _ => none }
def degenAgainRow : OpenClaim := { program := "ytefplklkhcpchaa", sum := "93043181f519b34b4cd6a36e3727d58a6dc39d7ad718e5021f48067608b0ee60", func := "lariat/lariatlaw31.DegenAgain", spec := "degenAgain", unfollowed := true, recurses := true, plainKeys := false, apart := false }
def DegenAgainSaid : Prop := degenAgainRow.holds Try.pinned (OpenSpec.ofChange degenAgainSpec)

/-- ITS FALSE NEIGHBOUR: 'it returns false'. Refute it at one input. -/
def degenAgainWrong : ChangeSpec := { name := "degenAgain", fn := fun _ => fun
  | [d] => { results := [.lit (.bool false)], args := [d] }
  | _ => none }
def DegenAgainWrongFalsely : Prop := degenAgainRow.holds Try.pinned (OpenSpec.ofChange degenAgainWrong)

/-- 'lariatlaw31.DegenNone': WHATEVER THE INPUT: true; the input reads as it did. -/
def degenNoneSpec : ChangeSpec := { name := "degenNone", fn := fun _ => fun
  | [d] => { results := [.lit (.bool true)], args := [d] }
  | _ => none }
def degenNoneRow : OpenClaim := { program := "ytefplklkhcpchaa", sum := "93043181f519b34b4cd6a36e3727d58a6dc39d7ad718e5021f48067608b0ee60", func := "lariat/lariatlaw31.DegenNone", spec := "degenNone", unfollowed := true, recurses := true, plainKeys := false, apart := false }
def DegenNoneSaid : Prop := degenNoneRow.holds Try.pinned (OpenSpec.ofChange degenNoneSpec)

/-- ITS FALSE NEIGHBOUR: 'it returns false'. Refute it at one input. -/
def degenNoneWrong : ChangeSpec := { name := "degenNone", fn := fun _ => fun
  | [d] => { results := [.lit (.bool false)], args := [d] }
  | _ => none }
def DegenNoneWrongFalsely : Prop := degenNoneRow.holds Try.pinned (OpenSpec.ofChange degenNoneWrong)

/- THE SECOND FORM. 'bulk': how many values and letters a reading holds, each counted each time it is reached (what is shared counts as often as it is met; a slice's spare places count too). A statement '..UptoSaid' is the law's where the arguments, and the package variables that the reading takes, are together of bulk at most 1048576: NARROWER than '..Said'. Prove '..Said' where nothing that the law and all that it calls make is longer than what came in: it says more and counts as full. Else prove '..UptoSaid'. A law counts once. -/
mutual
def uptoBulk {H : Type} : DataW H → Nat
  | .lit (.string bytes) => bytes.length + 1
  | .lit _ => 1
  | .nil => 1
  | .ptr d => uptoBulk d + 1
  | .slice elems spare => uptoBulkAll elems + uptoBulkAll spare + 1
  | .agg parts => uptoBulkAll parts + 1
  | .iface _ d => uptoBulk d + 1
  | .map entries => uptoBulkEntries entries + 1
  | .held _ => 1
def uptoBulkAll {H : Type} : List (DataW H) → Nat
  | [] => 0
  | d :: r => uptoBulk d + uptoBulkAll r
def uptoBulkEntries {H : Type} : List (Lit × DataW H) → Nat
  | [] => 0
  | x :: r => uptoBulkEntry x + uptoBulkEntries r
def uptoBulkEntry {H : Type} : Lit × DataW H → Nat
  | (.string bytes, d) => bytes.length + uptoBulk d + 1
  | (_, d) => uptoBulk d + 1
 end
def uptoSmall : (H : Type) → List (DataW H) → Bool := fun _ ds => decide (uptoBulkAll ds ≤ 1048576)
def OpenSpec.upto (s : _root_.Go.ChangeSpec) : _root_.Go.OpenSpec := { _root_.Go.OpenSpec.ofChange s with cond := some uptoSmall }

/-- 'lariatlaw31.DegenOne', WHERE WHAT IT READS IS OF BULK AT MOST 1048576: true; the input reads as it did. -/
def degenOneUptoRow : OpenClaim := { program := "ytefplklkhcpchaa", sum := "93043181f519b34b4cd6a36e3727d58a6dc39d7ad718e5021f48067608b0ee60", func := "lariat/lariatlaw31.DegenOne", spec := "degenOne", unfollowed := true, recurses := true, plainKeys := false, apart := false, narrowed := true }
def DegenOneUptoSaid : Prop := degenOneUptoRow.holds Try.pinned (OpenSpec.upto degenOneSpec)

/-- 'lariatlaw31.DegenWords', WHERE WHAT IT READS IS OF BULK AT MOST 1048576: true; the input reads as it did. -/
def degenWordsUptoRow : OpenClaim := { program := "ytefplklkhcpchaa", sum := "93043181f519b34b4cd6a36e3727d58a6dc39d7ad718e5021f48067608b0ee60", func := "lariat/lariatlaw31.DegenWords", spec := "degenWords", unfollowed := true, recurses := true, plainKeys := false, apart := false, narrowed := true }
def DegenWordsUptoSaid : Prop := degenWordsUptoRow.holds Try.pinned (OpenSpec.upto degenWordsSpec)

/-- 'lariatlaw31.DegenSmall', WHERE WHAT IT READS IS OF BULK AT MOST 1048576: true; the input reads as it did. -/
def degenSmallUptoRow : OpenClaim := { program := "ytefplklkhcpchaa", sum := "93043181f519b34b4cd6a36e3727d58a6dc39d7ad718e5021f48067608b0ee60", func := "lariat/lariatlaw31.DegenSmall", spec := "degenSmall", unfollowed := true, recurses := true, plainKeys := false, apart := false, narrowed := true }
def DegenSmallUptoSaid : Prop := degenSmallUptoRow.holds Try.pinned (OpenSpec.upto degenSmallSpec)

/-- 'lariatlaw31.DegenAgain', WHERE WHAT IT READS IS OF BULK AT MOST 1048576: true; the input reads as it did. -/
def degenAgainUptoRow : OpenClaim := { program := "ytefplklkhcpchaa", sum := "93043181f519b34b4cd6a36e3727d58a6dc39d7ad718e5021f48067608b0ee60", func := "lariat/lariatlaw31.DegenAgain", spec := "degenAgain", unfollowed := true, recurses := true, plainKeys := false, apart := false, narrowed := true }
def DegenAgainUptoSaid : Prop := degenAgainUptoRow.holds Try.pinned (OpenSpec.upto degenAgainSpec)

/-- 'lariatlaw31.DegenNone', WHERE WHAT IT READS IS OF BULK AT MOST 1048576: true; the input reads as it did. -/
def degenNoneUptoRow : OpenClaim := { program := "ytefplklkhcpchaa", sum := "93043181f519b34b4cd6a36e3727d58a6dc39d7ad718e5021f48067608b0ee60", func := "lariat/lariatlaw31.DegenNone", spec := "degenNone", unfollowed := true, recurses := true, plainKeys := false, apart := false, narrowed := true }
def DegenNoneUptoSaid : Prop := degenNoneUptoRow.holds Try.pinned (OpenSpec.upto degenNoneSpec)

end Rows
end Go.Proofs.Ytefplklkhcpchaa
