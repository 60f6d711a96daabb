/- The walk of laws.FnExactCountWeights: it returns true, and nothing that was there has turned. -/
import Derived.Test.YtfbecjeogbjnpaaVal
namespace Go.Proofs.Ytfbecjeogbjnpaa
open Go.RowKit
set_option linter.unusedVariables false

theorem walkCountWeights (a0 : Int) (w : World) (w0 : -9223372036854775808 ≤ a0 ∧ a0 ≤ 9223372036854775807) :
    Calls Try.prog 12 #[.int .i64 a0] w fun e w' => e = .returned (.bool true) ∧ Below w.heap.size w w' := by
  go_enter Try.func12, Try.ntmps12
  go_wp2_with fail
  refine (specCountWeights _ _).mono ?_
  rintro e w1x ⟨rfl, b1⟩
  have bb1 := b1
  go_wp2_with fail
  refine (implCountWeights _ _).mono ?_
  rintro e w2x ⟨rfl, b2⟩
  have bb2 := bThen bb1 b2
  go_wp2
  go_ret
  exact ⟨rfl, bb2⟩
end Go.Proofs.Ytfbecjeogbjnpaa
