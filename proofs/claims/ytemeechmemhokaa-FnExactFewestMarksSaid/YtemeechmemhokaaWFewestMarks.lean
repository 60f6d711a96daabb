/- The walk of laws.FnExactFewestMarks: it returns true, and nothing that was there has turned. -/
import Derived.Test.YtemeechmemhokaaFewS
namespace Go.Proofs.Ytemeechmemhokaa
open Go.RowKit
set_option linter.unusedVariables false

theorem walkFewestMarks (a0 : Int) (w : World) (w0 : -9223372036854775808 ≤ a0 ∧ a0 ≤ 9223372036854775807) :
    Calls Try.prog 6 #[.int .i64 a0] w fun e w' => e = .returned (.bool true) ∧ Below w.heap.size w w' := by
  go_enter Try.func6, Try.ntmps6
  go_wp2_with fail
  refine (specFewest _ _).mono ?_
  rintro e w1x ⟨rfl, b1⟩
  have bb1 := b1
  go_wp2_with fail
  refine (implFewest _ _).mono ?_
  rintro e w2x ⟨rfl, b2⟩
  have bb2 := bThen bb1 b2
  go_wp2
  go_ret
  exact ⟨rfl, bb2⟩
end Go.Proofs.Ytemeechmemhokaa
