/- The walk of laws.FnExactFormatInt: it returns true, and nothing that was there has turned. -/
import Derived.Test.YthonlkconobdfaaDoorFmt
namespace Go.Proofs.YthonlkconobdfaaDoor
open Go.RowKit
set_option linter.unusedVariables false

theorem walkFormatInt (a0 : Int) (w : World) (w0 : -9223372036854775808 ≤ a0 ∧ a0 ≤ 9223372036854775807) (ht : Tab w) :
    Calls Tryd.prog 3 #[.int .i64 a0] w fun e w' => e = .returned (.bool true) ∧ Below w.heap.size w w' := by
  go_enter Tryd.func3, Tryd.ntmps3
  go_wp2_with fail
  refine (specFmt _ _ w0).mono ?_
  rintro e w1 ⟨rfl, b1⟩
  go_wp2_with fail
  refine (implFmt _ _ w0 (ht.on b1)).mono ?_
  rintro e w2 ⟨rfl, b2⟩
  have bb := bThen b1 b2
  obtain ⟨t, et⟩ : ∃ t, t = itx a0 := ⟨_, rfl⟩
  rw [← et]
  clear et
  go_wp2
  go_ret
  exact ⟨rfl, bb⟩
end Go.Proofs.YthonlkconobdfaaDoor
