/- Whether a pair is among others, as Go's library tells it. Conditions: few. -/
import Derived.Test.YtfcpfcgcfaacnaaSPrRin
namespace Go.Proofs.Ytfcpfcgcfaacnaa
open Go.RowKit
end Go.Proofs.Ytfcpfcgcfaacnaa
