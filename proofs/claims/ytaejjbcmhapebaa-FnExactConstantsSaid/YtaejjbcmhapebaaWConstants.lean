/- The walk of laws.FnExactConstants: it returns true, and nothing that was there has turned. -/
import Derived.Test.YtaejjbcmhapebaaRows
import Derived.Test.YtaejjbcmhapebaaPre
namespace Go.Proofs.Ytaejjbcmhapebaa
open Go.RowKit
set_option linter.unusedVariables false

set_option maxRecDepth 100000 in
theorem walkConstants (w : World) : Calls Try.prog 3 #[] w fun e w' => e = .returned (.bool true) ∧ Below w.heap.size w w' := by
  go_enter Try.func3, Try.ntmps3
  go_wp2
  go_ret
  exact ⟨rfl, Below.refl _ _⟩
end Go.Proofs.Ytaejjbcmhapebaa
