/- The example's findings. No conditions. -/
import Derived.Test.YtfcpfcgcfaacnaaNdOne
import Derived.Test.YtfcpfcgcfaacnaaNdActs2
namespace Go.Proofs.Ytfcpfcgcfaacnaa
open Go.RowKit

theorem ex1 : searchP oG [] (oA 1) 9 9 = ⟨2, 0, 1, 2, 1, [], [⟨0, 0, 0⟩]⟩ := by kernel_rfl
theorem ex2 : searchP oG [] (oA 0) 9 9 = ⟨1, 0, 1, 1, 1, [], []⟩ := by kernel_rfl
theorem ex3 : searchP oG [] (oA 0) 0 9 = ⟨3, 1, 0, 0, 0, [], []⟩ := by kernel_rfl
theorem exA : lassoActs (ndAct oG [] (oA 1)) [] [⟨0, 0, 0⟩] = ([], [7]) := by kernel_rfl
end Go.Proofs.Ytfcpfcgcfaacnaa
