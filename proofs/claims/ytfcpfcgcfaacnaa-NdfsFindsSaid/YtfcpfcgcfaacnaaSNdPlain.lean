/- Pairs told anew, as the document's. Conditions: few. -/
import Derived.Test.YtfcpfcgcfaacnaaSNdRLasso
import Derived.Test.YtfcpfcgcfaacnaaSPrRef
import Derived.Test.YtfcpfcgcfaacnaaSFree
namespace Go.Proofs.Ytfcpfcgcfaacnaa
open Go.RowKit
theorem list_getP {l : List Value} {n : Nat} (h : l.length = n) : l = (List.range n).map fun i => l.getD i undef := by
 refine List.ext_getElem (by simp [h]) fun i h1 h2 => ?_
 simp [List.getD, List.getElem?_eq_getElem h1]
end Go.Proofs.Ytfcpfcgcfaacnaa
