/- Laws of the tokens of a text, plain: their order, names, bounds. No conditions. -/
import Derived.Test.YtkehfolcfcbplaaGreatDoorSLexQ
namespace Go.Proofs.YtkehfolcfcbplaaGreatDoor
open Go.Lib
def ownW : List (List UInt8) := [[115, 101, 108, 102], [110, 111, 110, 101], [108, 101, 110], [97, 116]]
def nameP (L : List UInt8) : Bool := headB isLet L && decide (L.length ≤ 16) && decide (runB isPart L = L.length) && !(ownW.contains L)
end Go.Proofs.YtkehfolcfcbplaaGreatDoor
