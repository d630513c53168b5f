/- How an argument that is a struct, or a slice of such, is opened. No conditions. -/
import Derived.Test.YtkehfolcfcbplaaGreatDoorSBase
namespace Go.Proofs.YtkehfolcfcbplaaGreatDoor
open Go.RowKit Go.ChangeShapes Go.WideShapes Go.ChangeAt
end Go.Proofs.YtkehfolcfcbplaaGreatDoor
