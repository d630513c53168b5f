/- How arguments that are pairs, and arrays, are opened. No conditions. -/
import Derived.Test.YtfcpfcgcfaacnaaSPrNew
namespace Go.Proofs.Ytfcpfcgcfaacnaa
open Go.RowKit Go.ChangeShapes Go.WideShapes Go.ChangeAt
def rPP : Rd PP := fun _ cs x => cs = [.int .i64 x.node, .int .i64 x.state, .int .i64 x.turn]
end Go.Proofs.Ytfcpfcgcfaacnaa
